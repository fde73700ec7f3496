/- Count and Depth, the program's and the reference's, of any tree that lies in memory. -/
import Derived.Test.YtgodeffkboihlaaGreatDoorM1
import Derived.Deep.QuietTactic
import Derived.BigQuiet
import Derived.Lib.Builder
import Derived.IntWalk
set_option linter.unusedVariables false
namespace Go.Proofs.YtgodeffkboihlaaGreatDoor.Tcn
open Go.RowKit Tra Trb Trf

/-- A node's box. -/
abbrev box (w : World) (d : Nd) (a : Option Addr) (n c : Nat) : World := w.alloc (.cells (d.row a n c).toArray 25)
theorem box_cell (w : World) (d : Nd) (a : Option Addr) (n c : Nat) {W : World} (hb : Below (box w d a n c).heap.size (box w d a n c) W) : ∀ i, i < 8 → W.cell? ⟨w.heap.size, i, none⟩ = (d.row a n c)[i]? := by
  intro i hi
  have h1 : W.heap[w.heap.size]? = some (.cells (d.row a n c).toArray 25 (0, 0)) := (hb.block _ (by simp)).trans (heap_alloc_new _ _)
  rw [Lib.cell_of_heap h1]
  simp
/-- The cells of a kid, at hand one by one. -/
theorem kid_cells {w : World} {b o j : Nat} {d : Nd} {a : Option Addr} {n c : Nat} (h : ∀ i, i < 8 → w.cell? ⟨b, o + j * 8 + i, none⟩ = (d.row a n c)[i]?) :
    w.cell? ⟨b, o + j * 8, none⟩ = some (.int .i64 d.k) ∧ w.cell? ⟨b, o + j * 8 + 1, none⟩ = some (.string d.text) ∧ w.cell? ⟨b, o + j * 8 + 2, none⟩ = some (.int .i64 d.n) ∧ w.cell? ⟨b, o + j * 8 + 3, none⟩ = some (.string d.ty) ∧
    w.cell? ⟨b, o + j * 8 + 4, none⟩ = some (.int .i64 d.slot) ∧ w.cell? ⟨b, o + j * 8 + 5, none⟩ = some (.int .i64 d.at_) ∧ w.cell? ⟨b, o + j * 8 + 6, none⟩ = some (.int .i64 d.line) ∧ w.cell? ⟨b, o + j * 8 + 7, none⟩ = some (.slice a n c) :=
  ⟨h 0 (by omega), h 1 (by omega), h 2 (by omega), h 3 (by omega), h 4 (by omega), h 5 (by omega), h 6 (by omega), h 7 (by omega)⟩
theorem fit_kid {d : Nd} {ks : List Tr} (h : Fit (.mk d ks)) {j : Nat} (hj : j < ks.length) : Fit (ks.getD j tr0) := by
  cases h with
  | mk _ _ hd hl h => exact h j hj
theorem fit_len {d : Nd} {ks : List Tr} (h : Fit (.mk d ks)) : ks.length ≤ 1048576 := by
  cases h with
  | mk _ _ hd hl h => exact hl
theorem fit_nd {d : Nd} {ks : List Tr} (h : Fit (.mk d ks)) : NdFit d := by
  cases h with
  | mk _ _ hd hl h => exact hd
/-- What the counting has come to. -/
abbrev sofar (ks : List Tr) (k m : Nat) : Nat := min (1 + sizes (ks.take k)) (m + 1)
theorem sofar_zero (ks : List Tr) (m : Nat) : sofar ks 0 m = 1 := by unfold sofar; simp [sizes]
theorem sofar_succ {ks : List Tr} {k m s r : Nat} (hk : k < ks.length) (hs : sofar ks k m = s) (hsm : s ≤ m) (hr : min (size (ks.getD k tr0)) (m - s + 1) = r) : sofar ks (k + 1) m = s + r := by
  unfold sofar at *
  rw [sizes_take_succ hk]; omega
theorem sofar_end {d : Nd} {ks : List Tr} {k m s : Nat} (hk : k ≤ ks.length) (hs : sofar ks k m = s) (h : k = ks.length ∨ m < s) : s = min (size (.mk d ks)) (m + 1) := by
  unfold sofar at hs
  simp only [size]
  rcases h with rfl | h
  · rw [List.take_length] at hs; omega
  · have := sizes_take_le ks k; omega
theorem bound_kid {d : Nd} {ks : List Tr} {k m s : Nat} (hk : k < ks.length) (hs : sofar ks k m = s) (hsm : s ≤ m) (hb : min (size (.mk d ks)) (m + 1) ≤ 1048577) : min (size (ks.getD k tr0)) (m - s + 1) ≤ 1048577 ∧ s + min (size (ks.getD k tr0)) (m - s + 1) ≤ 1048577 := by
  have h1 := size_kid hk
  have h2 := sofar_succ (r := min (size (ks.getD k tr0)) (m - s + 1)) hk hs hsm rfl
  have h3 := sizes_take_le ks (k + 1)
  unfold sofar at hs h2
  simp only [size] at hb
  omega
/-- One kid of a tree that lies: its cells, in any world that keeps what was. -/
theorem kid_at {w W : World} {S : Nat → Prop} {ks : List Tr} {a : Option Addr} {ds : Nat → Nd} {xs : Nat → Option Addr} {ns cs : Nat → Nat}
    (hat : ks = [] ∨ ∃ b o, a = some ⟨b, o, none⟩ ∧ b < w.heap.size ∧ S b ∧ ∀ j, j < ks.length → ∀ i, i < 8 → w.cell? ⟨b, o + j * 8 + i, none⟩ = ((ds j).row (xs j) (ns j) (cs j))[i]?)
    (hb : Below w.heap.size w W) {k : Nat} (hk : k < ks.length) : ∃ b o, a = some ⟨b, o, none⟩ ∧ ∀ i, i < 8 → W.cell? ⟨b, o + k * 8 + i, none⟩ = ((ds k).row (xs k) (ns k) (cs k))[i]? := by
  rcases hat with h | ⟨b, o, h1, h2, _, h3⟩
  · subst h; simp at hk
  · exact ⟨b, o, h1, fun i hi => (World.cell?_of_block (a := ⟨b, _, none⟩) (hb.block b h2)).trans (h3 k hk i hi)⟩
theorem box_below (w : World) (d : Nd) (a : Option Addr) (n c : Nat) : Below w.heap.size w (box w d a n c) := (Below.refl _ w).alloc (Nat.le_refl _) _
set_option maxHeartbeats 4000000 in
set_option maxRecDepth 100000 in
theorem rcount_low (most : Int) (h : most ≤ 0) (v : Value) (t : Tr) (S : Nat → Prop) (w : World) (hv : Lies w S t v) :
    Calls Tryz.prog 17 #[v, .int .i64 most] w fun e w' => e = .returned (.int .i64 1) ∧ Below w.heap.size w w' := by
  obtain ⟨a, c, rfl⟩ := hv.shape
  by_cases h0 : most < 0
  · go_enter Tryz.func17, Tryz.ntmps17
    go_wp2
    go_ret
    exact ⟨rfl, box_below w t.d a t.kids.length c⟩
  · obtain rfl : most = 0 := by omega
    go_enter Tryz.func17, Tryz.ntmps17
    go_wp2
    go_ret
    exact ⟨rfl, box_below w t.d a t.kids.length c⟩
set_option maxHeartbeats 4000000 in
set_option maxRecDepth 100000 in
theorem rcount_any : ∀ (t : Tr) (m : Nat) (v : Value) (S : Nat → Prop) (w : World), Lies w S t v → Fit t → (m : Int) ≤ 9223372036854775807 → min (size t) (m + 1) ≤ 1048577 →
    Calls Tryz.prog 17 #[v, .int .i64 m] w fun e w' => e = .returned (.int .i64 (min (size t) (m + 1) : Nat)) ∧ Below w.heap.size w w' := by
  refine tree_ind fun d ks ih => ?_
  intro m v S w hv hF hm2 hb
  by_cases hm1 : m = 0
  · subst hm1
    have := size_pos (.mk d ks)
    rw [Nat.min_eq_right (by omega)]
    exact rcount_low 0 (by omega) v _ S w hv
  have HF := Lib.hid hF
  have hlen := fit_len hF
  have HB := Lib.hid hb
  have HI := Lib.hid ih
  clear hF hb ih
  cases hv with
  | mk _ _ a c ds xs ns cs hcap hat hk =>
  have HAT := Lib.hid hat
  have HK := Lib.hid hk
  clear hat hk
  have hd1 : decide ((m : Int) < 0) = false := by simp
  have hd2 : ((m : Int) == 0) = false := by simp; omega
  go_enter Tryz.func17, Tryz.ntmps17
  go_wp2
  clear hd1 hd2
  go_loopw [5, 6] (fun s i wr => ∃ k n : Nat, k ≤ ks.length ∧ i = .int .i64 k ∧ s = .int .i64 n ∧ Hid (sofar ks k m = n) ∧ Hid (Below (box w d a ks.length c).heap.size (box w d a ks.length c) wr)) (fun _ i _ => ks.length - (intOf i).toNat)
  case atStart => exact ⟨0, 1, Nat.zero_le _, rfl, rfl, sofar_zero ks m, Below.refl _ _⟩
  case round =>
    obtain ⟨k, n, hk, rfl, rfl, hs, hbw⟩ := hrel
    have hc := box_cell w d a ks.length c hbw.out 7 (by omega)
    simp only [List.getElem?_cons_succ, List.getElem?_cons_zero] at hc
    have hn : n ≤ 1048577 := by
      have := hs.out; have := HB.out; unfold sofar at *; simp only [size] at *
      have := sizes_take_le ks k; omega
    have HW : Hid (Below w.heap.size w wr) := (box_below w d a ks.length c).trans (hbw.out.mono (by simp))
    by_cases hlt : k < ks.length
    · by_cases hnm : n ≤ m
      · obtain ⟨b, o, rfl, hcell⟩ := kid_at HAT.out HW.out hlt
        obtain ⟨c0, c1, c2, c3, c4, c5, c6, c7⟩ := kid_cells hcell
        clear hcell
        obtain ⟨r, hr⟩ : ∃ r, min (size (ks.getD k tr0)) (m - n + 1) = r := ⟨_, rfl⟩
        have hbd := bound_kid hlt hs.out hnm HB.out
        rw [hr] at hbd
        obtain ⟨hbd1, hbd2⟩ := hbd
        have HC := HI.out k hlt (m - n) _ S wr ((HK.out k hlt).kept HW.out) (fit_kid HF.out hlt) (by omega) (by rw [hr]; exact hbd1)
        rw [hr] at HC
        rw [show ((m - n : Nat) : Int) = (m : Int) - (n : Int) by omega] at HC
        have HR := Lib.hid hr
        clear hr
        go_wp2_with fail
        refine HC.mono ?_
        rintro e w1 ⟨rfl, hb1⟩
        clear HC
        have HB1 := Lib.hid hb1
        clear hb1
        go_wp2
        go_roundw
        case rel => exact ⟨k + 1, n + r, by omega, by go_num, by go_num, sofar_succ hlt hs.out hnm HR.out, hbw.out.trans (HB1.out.mono hbw.out.size)⟩
        case measure => simp [intOf]; omega
      · have HE : Hid (n = min (size (.mk d ks)) (m + 1)) := sofar_end hk hs.out (.inr (by omega))
        have hdm : decide (n ≤ m) = false := by simpa using hnm
        go_wp2
        go_ret
        exact ⟨by rw [← HE.out]; rfl, HW.out⟩
    · have HE : Hid (n = min (size (.mk d ks)) (m + 1)) := sofar_end hk hs.out (.inl (by omega))
      go_wp2
      go_ret
      exact ⟨by rw [← HE.out]; rfl, HW.out⟩
set_option maxHeartbeats 4000000 in
set_option maxRecDepth 100000 in
theorem count_nat : ∀ (t : Tr) (m : Nat) (v : Value) (S : Nat → Prop) (w : World), Lies w S t v → Fit t → (m : Int) ≤ 9223372036854775807 → min (size t) (m + 1) ≤ 1048577 →
    Calls Tryz.prog 12 #[v, .int .i64 m] w fun e w' => e = .returned (.int .i64 (min (size t) (m + 1) : Nat)) ∧ Below w.heap.size w w' := by
  refine tree_ind fun d ks ih => ?_
  intro m v S w hv hF hm2 hb
  have HF := Lib.hid hF
  have hlen := fit_len hF
  have HB := Lib.hid hb
  have HI := Lib.hid ih
  clear hF hb ih
  cases hv with
  | mk _ _ a c ds xs ns cs hcap hat hk =>
  have HAT := Lib.hid hat
  have HK := Lib.hid hk
  clear hat hk
  have hd1 : max (m : Int) 0 = m := by omega
  go_enter Tryz.func12, Tryz.ntmps12
  go_wp2
  clear hd1
  go_loopw [5, 6] (fun s i wr => ∃ k n : Nat, k ≤ ks.length ∧ i = .int .i64 k ∧ s = .int .i64 n ∧ Hid (sofar ks k m = n) ∧ Hid (Below (box w d a ks.length c).heap.size (box w d a ks.length c) wr)) (fun _ i _ => ks.length - (intOf i).toNat)
  case atStart => exact ⟨0, 1, Nat.zero_le _, rfl, rfl, sofar_zero ks m, Below.refl _ _⟩
  case round =>
    obtain ⟨k, n, hk, rfl, rfl, hs, hbw⟩ := hrel
    have hc := box_cell w d a ks.length c hbw.out 7 (by omega)
    simp only [List.getElem?_cons_succ, List.getElem?_cons_zero] at hc
    have hn : n ≤ 1048577 := by
      have := hs.out; have := HB.out; unfold sofar at *; simp only [size] at *
      have := sizes_take_le ks k; omega
    have HW : Hid (Below w.heap.size w wr) := (box_below w d a ks.length c).trans (hbw.out.mono (by simp))
    by_cases hlt : k < ks.length
    · by_cases hnm : n ≤ m
      · obtain ⟨b, o, rfl, hcell⟩ := kid_at HAT.out HW.out hlt
        obtain ⟨c0, c1, c2, c3, c4, c5, c6, c7⟩ := kid_cells hcell
        clear hcell
        obtain ⟨r, hr⟩ : ∃ r, min (size (ks.getD k tr0)) (m - n + 1) = r := ⟨_, rfl⟩
        have hbd := bound_kid hlt hs.out hnm HB.out
        rw [hr] at hbd
        obtain ⟨hbd1, hbd2⟩ := hbd
        have HC := HI.out k hlt (m - n) _ S wr ((HK.out k hlt).kept HW.out) (fit_kid HF.out hlt) (by omega) (by rw [hr]; exact hbd1)
        rw [hr] at HC
        rw [show ((m - n : Nat) : Int) = (m : Int) - (n : Int) by omega] at HC
        have HR := Lib.hid hr
        clear hr
        go_wp2_with fail
        refine HC.mono ?_
        rintro e w1 ⟨rfl, hb1⟩
        clear HC
        have HB1 := Lib.hid hb1
        clear hb1
        go_wp2
        go_roundw
        case rel => exact ⟨k + 1, n + r, by omega, by go_num, by go_num, sofar_succ hlt hs.out hnm HR.out, hbw.out.trans (HB1.out.mono hbw.out.size)⟩
        case measure => simp [intOf]; omega
      · have HE : Hid (n = min (size (.mk d ks)) (m + 1)) := sofar_end hk hs.out (.inr (by omega))
        have hdm : decide (n ≤ m) = false := by simpa using hnm
        go_wp2
        go_ret
        exact ⟨by rw [← HE.out]; rfl, HW.out⟩
    · have HE : Hid (n = min (size (.mk d ks)) (m + 1)) := sofar_end hk hs.out (.inl (by omega))
      go_wp2
      go_ret
      exact ⟨by rw [← HE.out]; rfl, HW.out⟩
set_option maxHeartbeats 4000000 in
set_option maxRecDepth 100000 in
theorem count_low (most : Int) (h : most ≤ 0) (v : Value) (t : Tr) (S : Nat → Prop) (w : World) (hv : Lies w S t v) :
    Calls Tryz.prog 12 #[v, .int .i64 most] w fun e w' => e = .returned (.int .i64 1) ∧ Below w.heap.size w w' := by
  obtain ⟨d, ks⟩ := t
  obtain ⟨a, c, rfl⟩ := hv.shape
  simp only [Tr.d, Tr.kids]
  have hd1 : max most 0 = 0 := by omega
  go_enter Tryz.func12, Tryz.ntmps12
  go_wp2
  all_goals
    clear hd1
    go_loopw [5, 6] (fun s i wr => ∃ k : Nat, k = 0 ∧ s = .int .i64 1 ∧ i = .int .i64 k ∧ wr = box w d a ks.length c) (fun s i _ => 0)
    case atStart => exact ⟨0, rfl, rfl, rfl, rfl⟩
    case round =>
      obtain ⟨k, rfl, rfl, rfl, rfl⟩ := hrel
      have hc := box_cell w d a ks.length c (Below.refl _ _) 7 (by omega)
      simp only [List.getElem?_cons_succ, List.getElem?_cons_zero] at hc
      by_cases hlt : 0 < ks.length
      all_goals
        go_wp2
        go_ret
        exact ⟨rfl, box_below w d a ks.length c⟩
  /-- What the depth has come to. -/
  abbrev dsofar (ks : List Tr) (k m : Nat) : Nat := min (depths (ks.take k)) m
  theorem dsofar_zero (ks : List Tr) (m : Nat) : dsofar ks 0 m = 0 := by unfold dsofar; simp [depths]
  theorem dsofar_succ {ks : List Tr} {k m s r z : Nat} (hk : k < ks.length) (hs : dsofar ks k m = s) (hm : 1 ≤ m) (hr : min (depth (ks.getD k tr0)) (m - 1 + 1) = r) (hz : max s r = z) : dsofar ks (k + 1) m = z := by
    unfold dsofar at *
    rw [depths_take_succ hk]; omega
  theorem dsofar_end {d : Nd} {ks : List Tr} {k m s : Nat} (hk : k ≤ ks.length) (hs : dsofar ks k m = s) (h : k = ks.length ∨ m ≤ s) : s + 1 = min (depth (.mk d ks)) (m + 1) := by
    unfold dsofar at hs
    simp only [depth]
    rcases h with rfl | h
    · rw [List.take_length] at hs; omega
    · have := depths_take_le ks k; omega
  theorem dbound_kid {d : Nd} {ks : List Tr} {k m : Nat} (hk : k < ks.length) (hm : 1 ≤ m) (hb : min (depth (.mk d ks)) (m + 1) ≤ 1048577) : min (depth (ks.getD k tr0)) (m - 1 + 1) ≤ 1048576 := by
    have h1 := depths_take_succ hk
    have h3 := depths_take_le ks (k + 1)
    simp only [depth] at hb
    omega
set_option maxHeartbeats 4000000 in
set_option maxRecDepth 100000 in
theorem depth_low (most : Int) (h : most ≤ 0) (v : Value) (t : Tr) (S : Nat → Prop) (w : World) (hv : Lies w S t v) :
    Calls Tryz.prog 13 #[v, .int .i64 most] w fun e w' => e = .returned (.int .i64 1) ∧ Below w.heap.size w w' := by
  obtain ⟨d, ks⟩ := t
  obtain ⟨a, c, rfl⟩ := hv.shape
  simp only [Tr.d, Tr.kids]
  have hd1 : decide (0 < most) = false := by simpa using h
  go_enter Tryz.func13, Tryz.ntmps13
  go_wp2
  go_loopw [5, 6] (fun s i wr => ∃ k : Nat, k = 0 ∧ s = .int .i64 0 ∧ i = .int .i64 k ∧ wr = box w d a ks.length c) (fun s i _ => 0)
  case atStart => exact ⟨0, rfl, rfl, rfl, rfl⟩
  case round =>
    obtain ⟨k, rfl, rfl, rfl, rfl⟩ := hrel
    have hc := box_cell w d a ks.length c (Below.refl _ _) 7 (by omega)
    simp only [List.getElem?_cons_succ, List.getElem?_cons_zero] at hc
    by_cases hlt : 0 < ks.length
    all_goals
      go_wp2
      go_ret
      exact ⟨rfl, box_below w d a ks.length c⟩
set_option maxHeartbeats 4000000 in
set_option maxRecDepth 100000 in
theorem rdepth_low (most : Int) (h : most ≤ 0) (v : Value) (t : Tr) (S : Nat → Prop) (w : World) (hv : Lies w S t v) :
    Calls Tryz.prog 18 #[v, .int .i64 most] w fun e w' => e = .returned (.int .i64 1) ∧ Below w.heap.size w w' := by
  obtain ⟨a, c, rfl⟩ := hv.shape
  go_enter Tryz.func18, Tryz.ntmps18
  go_wp2
  go_ret
  exact ⟨rfl, box_below w t.d a t.kids.length c⟩
set_option maxHeartbeats 4000000 in
set_option maxRecDepth 100000 in
theorem depth_any : ∀ (t : Tr) (m : Nat) (v : Value) (S : Nat → Prop) (w : World), Lies w S t v → Fit t → (m : Int) ≤ 9223372036854775807 → min (depth t) (m + 1) ≤ 1048577 →
    Calls Tryz.prog 13 #[v, .int .i64 m] w fun e w' => e = .returned (.int .i64 (min (depth t) (m + 1) : Nat)) ∧ Below w.heap.size w w' := by
  refine tree_ind fun d ks ih => ?_
  intro m v S w hv hF hm2 hb
  have HF := Lib.hid hF
  have hlen := fit_len hF
  have HB := Lib.hid hb
  have HI := Lib.hid ih
  clear hF hb ih
  cases hv with
  | mk _ _ a c ds xs ns cs hcap hat hk =>
  have HAT := Lib.hid hat
  have HK := Lib.hid hk
  clear hat hk
  go_enter Tryz.func13, Tryz.ntmps13
  go_wp2
  go_loopw [5, 6] (fun s i wr => ∃ k n : Nat, k ≤ ks.length ∧ i = .int .i64 k ∧ s = .int .i64 n ∧ Hid (dsofar ks k m = n) ∧ Hid (Below (box w d a ks.length c).heap.size (box w d a ks.length c) wr)) (fun _ i _ => ks.length - (intOf i).toNat)
  case atStart => exact ⟨0, 0, Nat.zero_le _, rfl, rfl, dsofar_zero ks m, Below.refl _ _⟩
  case round =>
    obtain ⟨k, n, hk, rfl, rfl, hs, hbw⟩ := hrel
    have hc := box_cell w d a ks.length c hbw.out 7 (by omega)
    simp only [List.getElem?_cons_succ, List.getElem?_cons_zero] at hc
    have hn : n ≤ 1048576 := by
      have := hs.out; have := HB.out; unfold dsofar at *; simp only [depth] at *
      have := depths_take_le ks k; omega
    have HW : Hid (Below w.heap.size w wr) := (box_below w d a ks.length c).trans (hbw.out.mono (by simp))
    by_cases hlt : k < ks.length
    · by_cases hnm : n < m
      · obtain ⟨b, o, rfl, hcell⟩ := kid_at HAT.out HW.out hlt
        obtain ⟨c0, c1, c2, c3, c4, c5, c6, c7⟩ := kid_cells hcell
        clear hcell
        obtain ⟨r, hr⟩ : ∃ r, min (depth (ks.getD k tr0)) (m - 1 + 1) = r := ⟨_, rfl⟩
        have hbd := dbound_kid hlt (by omega) HB.out
        rw [hr] at hbd
        have HC := HI.out k hlt (m - 1) _ S wr ((HK.out k hlt).kept HW.out) (fit_kid HF.out hlt) (by omega) (by rw [hr]; omega)
        rw [hr] at HC
        rw [show ((m - 1 : Nat) : Int) = (m : Int) - 1 by omega] at HC
        have HR := Lib.hid hr
        obtain ⟨z, hz⟩ : ∃ z : Nat, max n r = z := ⟨_, rfl⟩
        have HZ := Lib.hid hz
        have hmx : max (n : Int) (r : Int) = (z : Int) := by omega
        have hzb : z ≤ 1048577 := by omega
        clear hr hz
        go_wp2_with fail
        refine HC.mono ?_
        rintro e w1 ⟨rfl, hb1⟩
        clear HC
        have HB1 := Lib.hid hb1
        clear hb1
        go_wp2
        go_roundw
        case rel => exact ⟨k + 1, z, by omega, by go_num, by go_num, dsofar_succ hlt hs.out (by omega) HR.out HZ.out, hbw.out.trans (HB1.out.mono hbw.out.size)⟩
        case measure => simp [intOf]; omega
      · have HE : Hid (n + 1 = min (depth (.mk d ks)) (m + 1)) := dsofar_end hk hs.out (.inr (by omega))
        have hdm : decide (n < m) = false := by simpa using hnm
        go_wp2
        go_ret
        exact ⟨by rw [← HE.out]; rfl, HW.out⟩
    · have HE : Hid (n + 1 = min (depth (.mk d ks)) (m + 1)) := dsofar_end hk hs.out (.inl (by omega))
      go_wp2
      go_ret
      exact ⟨by rw [← HE.out]; rfl, HW.out⟩
set_option maxHeartbeats 4000000 in
set_option maxRecDepth 100000 in
theorem rdepth_any : ∀ (t : Tr) (m : Nat) (v : Value) (S : Nat → Prop) (w : World), Lies w S t v → Fit t → (m : Int) ≤ 9223372036854775807 → min (depth t) (m + 1) ≤ 1048577 →
    Calls Tryz.prog 18 #[v, .int .i64 m] w fun e w' => e = .returned (.int .i64 (min (depth t) (m + 1) : Nat)) ∧ Below w.heap.size w w' := by
  refine tree_ind fun d ks ih => ?_
  intro m v S w hv hF hm2 hb
  by_cases hm1 : m = 0
  · subst hm1
    have := depth_pos (.mk d ks)
    rw [Nat.min_eq_right (by omega)]
    exact rdepth_low 0 (by omega) v _ S w hv
  have HF := Lib.hid hF
  have hlen := fit_len hF
  have HB := Lib.hid hb
  have HI := Lib.hid ih
  clear hF hb ih
  cases hv with
  | mk _ _ a c ds xs ns cs hcap hat hk =>
  have HAT := Lib.hid hat
  have HK := Lib.hid hk
  clear hat hk
  have hd1 : decide ((m : Int) ≤ 0) = false := by simp; omega
  have hd2 : decide (m = 0) = false := by simp; omega
  go_enter Tryz.func18, Tryz.ntmps18
  go_wp2
  clear hd1 hd2
  go_loopw [5, 6, 7] (fun s i _ wr => ∃ k n : Nat, k ≤ ks.length ∧ i = .int .i64 k ∧ s = .int .i64 n ∧ Hid (dsofar ks k m = n) ∧ Hid (Below (box w d a ks.length c).heap.size (box w d a ks.length c) wr)) (fun _ i _ _ => ks.length - (intOf i).toNat)
  case atStart => exact ⟨0, 0, Nat.zero_le _, rfl, rfl, dsofar_zero ks m, Below.refl _ _⟩
  case round =>
    obtain ⟨k, n, hk, rfl, rfl, hs, hbw⟩ := hrel
    have hc := box_cell w d a ks.length c hbw.out 7 (by omega)
    simp only [List.getElem?_cons_succ, List.getElem?_cons_zero] at hc
    have hn : n ≤ 1048576 := by
      have := hs.out; have := HB.out; unfold dsofar at *; simp only [depth] at *
      have := depths_take_le ks k; omega
    have HW : Hid (Below w.heap.size w wr) := (box_below w d a ks.length c).trans (hbw.out.mono (by simp))
    by_cases hlt : k < ks.length
    · by_cases hnm : n < m
      · obtain ⟨b, o, rfl, hcell⟩ := kid_at HAT.out HW.out hlt
        obtain ⟨c0, c1, c2, c3, c4, c5, c6, c7⟩ := kid_cells hcell
        clear hcell
        obtain ⟨r, hr⟩ : ∃ r, min (depth (ks.getD k tr0)) (m - 1 + 1) = r := ⟨_, rfl⟩
        have hbd := dbound_kid hlt (by omega) HB.out
        rw [hr] at hbd
        have HC := HI.out k hlt (m - 1) _ S wr ((HK.out k hlt).kept HW.out) (fit_kid HF.out hlt) (by omega) (by rw [hr]; omega)
        rw [hr] at HC
        rw [show ((m - 1 : Nat) : Int) = (m : Int) - 1 by omega] at HC
        have HR := Lib.hid hr
        obtain ⟨z, hz⟩ : ∃ z : Nat, max n r = z := ⟨_, rfl⟩
        have HZ := Lib.hid hz
        have hmx : max (n : Int) (r : Int) = (z : Int) := by omega
        have hzb : z ≤ 1048577 := by omega
        clear hr hz
        go_wp2_with fail
        refine HC.mono ?_
        rintro e w1 ⟨rfl, hb1⟩
        clear HC
        have HB1 := Lib.hid hb1
        clear hb1
        go_wp2
        go_roundw
        case rel => exact ⟨k + 1, z, by omega, by go_num, by go_num, dsofar_succ hlt hs.out (by omega) HR.out HZ.out, hbw.out.trans (HB1.out.mono hbw.out.size)⟩
        case measure => simp [intOf]; omega
      · have HE : Hid (n + 1 = min (depth (.mk d ks)) (m + 1)) := dsofar_end hk hs.out (.inr (by omega))
        have hdm : decide (n < m) = false := by simpa using hnm
        go_wp2
        go_ret
        exact ⟨by rw [← HE.out]; rfl, HW.out⟩
    · have HE : Hid (n + 1 = min (depth (.mk d ks)) (m + 1)) := dsofar_end hk hs.out (.inl (by omega))
      go_wp2
      go_ret
      exact ⟨by rw [← HE.out]; rfl, HW.out⟩
end Go.Proofs.YtgodeffkboihlaaGreatDoor.Tcn
