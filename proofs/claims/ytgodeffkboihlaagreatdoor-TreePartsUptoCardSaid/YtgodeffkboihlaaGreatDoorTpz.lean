/- The walk of TreeParts. Printed by mkparts.py. -/
import Derived.Test.YtgodeffkboihlaaGreatDoorM3
import Derived.Test.YtgodeffkboihlaaGreatDoorTav
import Derived.Test.YtgodeffkboihlaaGreatDoorDrw
import Derived.Test.YtgodeffkboihlaaGreatDoorTqb
import Derived.Test.YtgodeffkboihlaaGreatDoorTpa
import Derived.Test.YtgodeffkboihlaaGreatDoorM8
import Derived.StillTail
set_option linter.unusedVariables false
set_option linter.unusedSimpArgs false
namespace Go.Proofs.YtgodeffkboihlaaGreatDoor.Tpz
open Go.RowKit Go.Sort Tra Trb Trd Trf Trg Tcn Trh Tst Tsa Tsb Tba Tpt Twb Twn Tbr Tbx Tpa Tpb Rwo Trc

/-- A node's box in a world. -/
def Bx (w : World) (k : Nat) (d : Nd) (a : Option Addr) (n c : Nat) : Prop := w.heap[k]? = some (.cells (d.row a n c).toArray ndT (0, 0))
theorem Bx.kept {w w' : World} {B k : Nat} {d : Nd} {a : Option Addr} {n c : Nat} (h : Bx w k d a n c) (hb : Below B w w') (hk : k < B) : Bx w' k d a n c := (hb.block k hk).trans h
theorem Bx.lt {w : World} {k : Nat} {d : Nd} {a : Option Addr} {n c : Nat} (h : Bx w k d a n c) : k < w.heap.size := (Array.getElem?_eq_some_iff.1 h).1
theorem Bx.new (w : World) (d : Nd) (a : Option Addr) (n c : Nat) : Bx (w.alloc (.cells (d.row a n c).toArray ndT)) w.heap.size d a n c := heap_alloc_new _ _
theorem Bx.cells {w : World} {k : Nat} {d : Nd} {a : Option Addr} {n c : Nat} (h : Bx w k d a n c) : w.cell? ⟨k, 0, none⟩ = some (.int .i64 d.k) ∧ w.cell? ⟨k, 1, none⟩ = some (.string d.text) ∧ w.cell? ⟨k, 2, none⟩ = some (.int .i64 d.n) ∧ w.cell? ⟨k, 3, none⟩ = some (.string d.ty) ∧ w.cell? ⟨k, 4, none⟩ = some (.int .i64 d.slot) ∧ w.cell? ⟨k, 5, none⟩ = some (.int .i64 d.at_) ∧ w.cell? ⟨k, 6, none⟩ = some (.int .i64 d.line) ∧ w.cell? ⟨k, 7, none⟩ = some (.slice a n c) := by
  have h1 := (row_cells8 h).1
  exact ⟨h1 0 (by omega), h1 1 (by omega), h1 2 (by omega), h1 3 (by omega), h1 4 (by omega), h1 5 (by omega), h1 6 (by omega), h1 7 (by omega)⟩
set_option maxHeartbeats 4000000 in
set_option maxRecDepth 100000 in
theorem great_any (t : Tr) (v : Value) (S : Nat → Prop) (w : World) (hv : Lies w S t v) (hF : Fit t) :
    Calls Tryz.prog 8 #[v] w fun e w' => e = .returned (.bool (decide (65536 < size t))) ∧ Below w.heap.size w w' := by
  obtain ⟨a, c, rfl⟩ := hv.shape
  have HB := Lib.hid (box_below w t.d a t.kids.length c)
  have HC := Lib.hid (rcount_any t 65536 _ S _ (hv.kept (box_below w t.d a t.kids.length c)) hF (by omega) (by omega))
  have hg : Hid (decide (65536 < size t) = decide (65536 < min (size t) (65536 + 1))) := by
    show _ = _
    rw [decide_eq_decide]; omega
  obtain ⟨n, hn⟩ : ∃ n, min (size t) (65536 + 1) = n := ⟨_, rfl⟩
  rw [hn] at HC
  have HN := Lib.hid hn
  have hnb : n ≤ 65537 := by omega
  clear hv hF hn
  have hd : (65536 < n ∧ decide ((65536 : Int) < (n : Int)) = true ∧ decide (65536 < n) = true) ∨ (¬ 65536 < n ∧ decide ((65536 : Int) < (n : Int)) = false ∧ decide (65536 < n) = false) := by
    by_cases h : 65536 < n
    · exact .inl ⟨h, by simp; omega, by simpa using h⟩
    · exact .inr ⟨h, by simp; omega, by simpa using h⟩
  rcases hd with ⟨_, e1, e2⟩ | ⟨_, e1, e2⟩
  all_goals
    have hg2 := hg.out
    rw [HN.out, e2] at hg2
    have HG := Lib.hid hg2
    clear hg2 hg e2
    go_enter Tryz.func8, Tryz.ntmps8
    go_wp2_with fail
    refine HC.out.mono ?_
    rintro e w1 ⟨rfl, hb1⟩
    have HB1 := Lib.hid (HB.out.trans (hb1.mono HB.out.size))
    clear hb1
    go_wp2
    go_ret
    exact ⟨by rw [HG.out]; rfl, HB1.out⟩
theorem lies_both {w : World} {S : Nat → Prop} {T : TypeId} {B : Nat} {x : Option Addr} {n c : Nat} {a b : Tr} {pa pb : Option Addr} {za zb : List Nv} (ho : Own nE T B (.slice x n c) (za ++ zb) w) (hS : ∀ b, (Value.slice x n c).ownBlock = some b → S b) (ha : Src8 w S a.kids pa za) (hb : Src8 w S b.kids pb zb) :
    Lies w S (bothT a b) (ndF.val x n c) := by
  refine lies_of_row ho (by rw [List.length_append, List.length_append, ha.len, hb.len]) hS (fun j hj => ?_) ndF
  rcases Nat.lt_or_ge j a.kids.length with h | h
  · have e1 : (a.kids ++ b.kids).getD j tr0 = a.kids.getD j tr0 := by simp [List.getD_eq_getElem?_getD, List.getElem?_append_left h]
    have e2 : (za ++ zb).getD j nv0 = za.getD j nv0 := by simp [List.getD_eq_getElem?_getD, List.getElem?_append_left (show j < za.length by rw [ha.len]; exact h)]
    rw [e1, e2]; exact ha.each j h
  · have hj2 : j - a.kids.length < b.kids.length := by rw [List.length_append] at hj; omega
    have e1 : (a.kids ++ b.kids).getD j tr0 = b.kids.getD (j - a.kids.length) tr0 := by simp [List.getD_eq_getElem?_getD, List.getElem?_append_right h]
    have e2 : (za ++ zb).getD j nv0 = zb.getD (j - a.kids.length) nv0 := by simp [List.getD_eq_getElem?_getD, List.getElem?_append_right (show za.length ≤ j by rw [ha.len]; exact h), ha.len]
    rw [e1, e2]; exact hb.each _ hj2
theorem src_mono {w : World} {S S' : Nat → Prop} {ks : List Tr} {p : Option Addr} {zs : List Nv} (h : Src8 w S ks p zs) (hS : ∀ b, b < w.heap.size → S b → S' b) : Src8 w S' ks p zs :=
  ⟨h.len, fun j hj => (h.each j hj).mono hS, h.cells⟩
/-- The node of both is made. -/
theorem fin {w3 w : World} {g : Nat} {x : Option Addr} {n c : Nat} {a b : Tr} {pa pb : Option Addr} {za zb : List Nv} (hr : RowS w3 (.slice x n c) (za ++ zb) w) (hx : BoxS g (.slice x n c) w) (hg : w3.heap.size ≤ g)
    (ha : Src8 w3 (fun _ => True) a.kids pa za) (hb : Src8 w3 (fun _ => True) b.kids pb zb) :
    n = (bothT a b).kids.length ∧ Bx (put8 w g ndF x n c) g (bothT a b).d x n c ∧ Lies (put8 w g ndF x n c) (fun _ => True) (bothT a b) ((bothT a b).d.val x n c) ∧ Below w3.heap.size w3 (put8 w g ndF x n c) := by
  have e : n = (bothT a b).kids.length := by
    obtain ⟨A, c', e⟩ := hr.own.shape
    simp only [Value.slice.injEq] at e
    rw [e.2.1, List.length_append, ha.len, hb.len]
    exact (List.length_append).symm
  have ha2 := (src_mono (S' := fun b => b ≠ g) (src_mono (S' := fun b => b < w3.heap.size) ha (fun b h _ => h)) (fun b _ h => by omega)).kept hr.below
  have hb2 := (src_mono (S' := fun b => b ≠ g) (src_mono (S' := fun b => b < w3.heap.size) hb (fun b h _ => h)) (fun b _ h => by omega)).kept hr.below
  have hl := lies_both hr.own (S := fun b => b ≠ g) (fun b h e => hx.ne (by rw [h, e])) ha2 hb2
  refine ⟨e, put8_row (d' := ⟨0, ⟨#[]⟩, 0, ⟨#[]⟩, 0, 0, 0⟩) (a' := none) (m := 0) (k := 0) hx.blk ndF x n c, ?_, put8_below hr.below hg _ _ _ _⟩
  exact (hl.on (by rw [put8_size]; exact Nat.le_refl _) fun b _ h => put8_far _ _ _ _ _ _ _ h).mono fun _ _ _ => trivial
/-- The four texts, one behind the other, are nothing where each is. -/
theorem four_nil {a b c d : ByteArray} (h : (a ++ b ++ c ++ d).toList.isEmpty = true) : a.size = 0 ∧ b.size = 0 ∧ c.size = 0 ∧ d.size = 0 := by
  have h1 : (a ++ b ++ c ++ d).size = 0 := by
    rw [List.isEmpty_iff] at h
    have := congrArg List.length h
    rw [Lib.toList_data, Tyq.size_len] at this; exact this
  simp only [ByteArray.size_append] at h1
  omega
set_option maxHeartbeats 8000000 in
set_option maxRecDepth 100000 in
theorem walk (v0 : Value) (t0 : Tr) (v1 : Value) (t1 : Tr) (W : World) (fit0 : Fit t0) (lie0 : Lies W (fun _ => True) t0 v0) (fit1 : Fit t1) (lie1 : Lies W (fun _ => True) t1 v1) (hE : Twq.Pow W) :
    Calls Tryz.prog 4 #[v0, v1] W fun e w' => e = .returned (.bool true) ∧ Below W.heap.size W w' := by
  obtain ⟨ad0, c0, rfl⟩ := lie0.shape
  obtain ⟨ad1, c1, rfl⟩ := lie1.shape
  have hB := below_boxes W t0.d t1.d ad0 ad1 t0.kids.length t1.kids.length c0 c1
  have hA : Bx ((box W t0.d ad0 t0.kids.length c0).alloc (.cells (t1.d.row ad1 t1.kids.length c1).toArray ndT)) W.heap.size t0.d ad0 t0.kids.length c0 := (heap_alloc_old _ _ (by simp)).trans (heap_alloc_new _ _)
  have hC : Bx ((box W t0.d ad0 t0.kids.length c0).alloc (.cells (t1.d.row ad1 t1.kids.length c1).toArray ndT)) (W.heap.size + 1) t1.d ad1 t1.kids.length c1 := by
    have := heap_alloc_new (box W t0.d ad0 t0.kids.length c0) (.cells (t1.d.row ad1 t1.kids.length c1).toArray ndT)
    rw [show (box W t0.d ad0 t0.kids.length c0).heap.size = W.heap.size + 1 by simp] at this
    exact this
  have HF0 := Lib.hid fit0
  have HF1 := Lib.hid fit1
  have HLA := Lib.hid (lie0.kept hB)
  have HLC := Lib.hid (lie1.kept hB)
  have HP := Lib.hid (hE.below hB)
  have HB := Lib.hid hB
  have HA := Lib.hid hA
  have HC := Lib.hid hC
  clear fit0 fit1 lie0 lie1 hB hA hC hE
  have HT := Lib.hid (fun W => Tav.alive_any W)
  obtain ⟨g0, hg0⟩ : ∃ b, decide (65536 < size t0) = b := ⟨_, rfl⟩
  obtain ⟨g1, hg1⟩ : ∃ b, decide (65536 < size t1) = b := ⟨_, rfl⟩
  have HG0 := fun W h => great_any t0 (t0.d.val ad0 t0.kids.length c0) (fun _ => True) W h HF0.out
  have HG1 := fun W h => great_any t1 (t1.d.val ad1 t1.kids.length c1) (fun _ => True) W h HF1.out
  rw [hg0] at HG0
  rw [hg1] at HG1
  have HGG0 := Lib.hid HG0
  have HGG1 := Lib.hid HG1
  have HZ0 := Lib.hid hg0
  have HZ1 := Lib.hid hg1
  clear HG0 HG1 hg0 hg1
  have ht0 : t0.d.text.size ≤ 1048576 := by cases HF0.out with | mk _ _ hd _ _ => exact hd.text
  have ht1 : t1.d.text.size ≤ 1048576 := by cases HF1.out with | mk _ _ hd _ _ => exact hd.text
  have ht2 : t0.d.ty.size ≤ 1048576 := by cases HF0.out with | mk _ _ hd _ _ => exact hd.ty
  have ht3 : t1.d.ty.size ≤ 1048576 := by cases HF1.out with | mk _ _ hd _ _ => exact hd.ty
  cases g0
  rotate_left
  · go_enter Tryz.func4, Tryz.ntmps4
    go_wp2_with fail
    refine (HT.out _).mono ?_
    rintro e w1 ⟨rfl, hb⟩
    have HA := Lib.hid (HA.out.kept hb HA.out.lt)
    have HC := Lib.hid (HC.out.kept hb HC.out.lt)
    have HLA := Lib.hid (HLA.out.kept hb)
    have HLC := Lib.hid (HLC.out.kept hb)
    have HP := Lib.hid (HP.out.below hb)
    have HB := Lib.hid (HB.out.trans (hb.mono HB.out.size))
    clear hb
    obtain ⟨a0, a1, a2, a3, a4, a5, a6, a7⟩ := HA.out.cells
    go_wp2_with fail
    refine (HGG0.out _ HLA.out).mono ?_
    rintro e w2 ⟨rfl, hb⟩
    clear a0 a1 a2 a3 a4 a5 a6 a7
    have HA := Lib.hid (HA.out.kept hb HA.out.lt)
    have HC := Lib.hid (HC.out.kept hb HC.out.lt)
    have HLA := Lib.hid (HLA.out.kept hb)
    have HLC := Lib.hid (HLC.out.kept hb)
    have HP := Lib.hid (HP.out.below hb)
    have HB := Lib.hid (HB.out.trans (hb.mono HB.out.size))
    clear hb
    obtain ⟨c0, c1, c2, c3, c4, c5, c6, c7⟩ := HC.out.cells
    go_wp2_with fail
    refine (HGG1.out _ HLC.out).mono ?_
    rintro e w3 ⟨rfl, hb⟩
    clear c0 c1 c2 c3 c4 c5 c6 c7
    have HA := Lib.hid (HA.out.kept hb HA.out.lt)
    have HC := Lib.hid (HC.out.kept hb HC.out.lt)
    have HLA := Lib.hid (HLA.out.kept hb)
    have HLC := Lib.hid (HLC.out.kept hb)
    have HP := Lib.hid (HP.out.below hb)
    have HB := Lib.hid (HB.out.trans (hb.mono HB.out.size))
    clear hb
    go_wp2
    go_ret
    exact ⟨rfl, HB.out⟩
  cases g1
  rotate_left
  · go_enter Tryz.func4, Tryz.ntmps4
    go_wp2_with fail
    refine (HT.out _).mono ?_
    rintro e w1 ⟨rfl, hb⟩
    have HA := Lib.hid (HA.out.kept hb HA.out.lt)
    have HC := Lib.hid (HC.out.kept hb HC.out.lt)
    have HLA := Lib.hid (HLA.out.kept hb)
    have HLC := Lib.hid (HLC.out.kept hb)
    have HP := Lib.hid (HP.out.below hb)
    have HB := Lib.hid (HB.out.trans (hb.mono HB.out.size))
    clear hb
    obtain ⟨a0, a1, a2, a3, a4, a5, a6, a7⟩ := HA.out.cells
    go_wp2_with fail
    refine (HGG0.out _ HLA.out).mono ?_
    rintro e w2 ⟨rfl, hb⟩
    clear a0 a1 a2 a3 a4 a5 a6 a7
    have HA := Lib.hid (HA.out.kept hb HA.out.lt)
    have HC := Lib.hid (HC.out.kept hb HC.out.lt)
    have HLA := Lib.hid (HLA.out.kept hb)
    have HLC := Lib.hid (HLC.out.kept hb)
    have HP := Lib.hid (HP.out.below hb)
    have HB := Lib.hid (HB.out.trans (hb.mono HB.out.size))
    clear hb
    obtain ⟨c0, c1, c2, c3, c4, c5, c6, c7⟩ := HC.out.cells
    go_wp2_with fail
    refine (HGG1.out _ HLC.out).mono ?_
    rintro e w3 ⟨rfl, hb⟩
    clear c0 c1 c2 c3 c4 c5 c6 c7
    have HA := Lib.hid (HA.out.kept hb HA.out.lt)
    have HC := Lib.hid (HC.out.kept hb HC.out.lt)
    have HLA := Lib.hid (HLA.out.kept hb)
    have HLC := Lib.hid (HLC.out.kept hb)
    have HP := Lib.hid (HP.out.below hb)
    have HB := Lib.hid (HB.out.trans (hb.mono HB.out.size))
    clear hb
    go_wp2
    go_ret
    exact ⟨rfl, HB.out⟩
  cases q0 : (t0.d.k != 1)
  rotate_left
  · go_enter Tryz.func4, Tryz.ntmps4
    go_wp2_with fail
    refine (HT.out _).mono ?_
    rintro e w1 ⟨rfl, hb⟩
    have HA := Lib.hid (HA.out.kept hb HA.out.lt)
    have HC := Lib.hid (HC.out.kept hb HC.out.lt)
    have HLA := Lib.hid (HLA.out.kept hb)
    have HLC := Lib.hid (HLC.out.kept hb)
    have HP := Lib.hid (HP.out.below hb)
    have HB := Lib.hid (HB.out.trans (hb.mono HB.out.size))
    clear hb
    obtain ⟨a0, a1, a2, a3, a4, a5, a6, a7⟩ := HA.out.cells
    go_wp2_with fail
    refine (HGG0.out _ HLA.out).mono ?_
    rintro e w2 ⟨rfl, hb⟩
    clear a0 a1 a2 a3 a4 a5 a6 a7
    have HA := Lib.hid (HA.out.kept hb HA.out.lt)
    have HC := Lib.hid (HC.out.kept hb HC.out.lt)
    have HLA := Lib.hid (HLA.out.kept hb)
    have HLC := Lib.hid (HLC.out.kept hb)
    have HP := Lib.hid (HP.out.below hb)
    have HB := Lib.hid (HB.out.trans (hb.mono HB.out.size))
    clear hb
    obtain ⟨c0, c1, c2, c3, c4, c5, c6, c7⟩ := HC.out.cells
    go_wp2_with fail
    refine (HGG1.out _ HLC.out).mono ?_
    rintro e w3 ⟨rfl, hb⟩
    clear c0 c1 c2 c3 c4 c5 c6 c7
    have HA := Lib.hid (HA.out.kept hb HA.out.lt)
    have HC := Lib.hid (HC.out.kept hb HC.out.lt)
    have HLA := Lib.hid (HLA.out.kept hb)
    have HLC := Lib.hid (HLC.out.kept hb)
    have HP := Lib.hid (HP.out.below hb)
    have HB := Lib.hid (HB.out.trans (hb.mono HB.out.size))
    clear hb
    obtain ⟨a0, a1, a2, a3, a4, a5, a6, a7⟩ := HA.out.cells
    obtain ⟨c0, c1, c2, c3, c4, c5, c6, c7⟩ := HC.out.cells
    go_wp2
    go_ret
    exact ⟨rfl, HB.out⟩
  cases q1 : (t1.d.k != 1)
  rotate_left
  · go_enter Tryz.func4, Tryz.ntmps4
    go_wp2_with fail
    refine (HT.out _).mono ?_
    rintro e w1 ⟨rfl, hb⟩
    have HA := Lib.hid (HA.out.kept hb HA.out.lt)
    have HC := Lib.hid (HC.out.kept hb HC.out.lt)
    have HLA := Lib.hid (HLA.out.kept hb)
    have HLC := Lib.hid (HLC.out.kept hb)
    have HP := Lib.hid (HP.out.below hb)
    have HB := Lib.hid (HB.out.trans (hb.mono HB.out.size))
    clear hb
    obtain ⟨a0, a1, a2, a3, a4, a5, a6, a7⟩ := HA.out.cells
    go_wp2_with fail
    refine (HGG0.out _ HLA.out).mono ?_
    rintro e w2 ⟨rfl, hb⟩
    clear a0 a1 a2 a3 a4 a5 a6 a7
    have HA := Lib.hid (HA.out.kept hb HA.out.lt)
    have HC := Lib.hid (HC.out.kept hb HC.out.lt)
    have HLA := Lib.hid (HLA.out.kept hb)
    have HLC := Lib.hid (HLC.out.kept hb)
    have HP := Lib.hid (HP.out.below hb)
    have HB := Lib.hid (HB.out.trans (hb.mono HB.out.size))
    clear hb
    obtain ⟨c0, c1, c2, c3, c4, c5, c6, c7⟩ := HC.out.cells
    go_wp2_with fail
    refine (HGG1.out _ HLC.out).mono ?_
    rintro e w3 ⟨rfl, hb⟩
    clear c0 c1 c2 c3 c4 c5 c6 c7
    have HA := Lib.hid (HA.out.kept hb HA.out.lt)
    have HC := Lib.hid (HC.out.kept hb HC.out.lt)
    have HLA := Lib.hid (HLA.out.kept hb)
    have HLC := Lib.hid (HLC.out.kept hb)
    have HP := Lib.hid (HP.out.below hb)
    have HB := Lib.hid (HB.out.trans (hb.mono HB.out.size))
    clear hb
    obtain ⟨a0, a1, a2, a3, a4, a5, a6, a7⟩ := HA.out.cells
    obtain ⟨c0, c1, c2, c3, c4, c5, c6, c7⟩ := HC.out.cells
    go_wp2
    go_ret
    exact ⟨rfl, HB.out⟩
  cases q2 : (t0.d.text ++ t1.d.text ++ t0.d.ty ++ t1.d.ty).toList.isEmpty
  · go_enter Tryz.func4, Tryz.ntmps4
    go_wp2_with fail
    refine (HT.out _).mono ?_
    rintro e w1 ⟨rfl, hb⟩
    have HA := Lib.hid (HA.out.kept hb HA.out.lt)
    have HC := Lib.hid (HC.out.kept hb HC.out.lt)
    have HLA := Lib.hid (HLA.out.kept hb)
    have HLC := Lib.hid (HLC.out.kept hb)
    have HP := Lib.hid (HP.out.below hb)
    have HB := Lib.hid (HB.out.trans (hb.mono HB.out.size))
    clear hb
    obtain ⟨a0, a1, a2, a3, a4, a5, a6, a7⟩ := HA.out.cells
    go_wp2_with fail
    refine (HGG0.out _ HLA.out).mono ?_
    rintro e w2 ⟨rfl, hb⟩
    clear a0 a1 a2 a3 a4 a5 a6 a7
    have HA := Lib.hid (HA.out.kept hb HA.out.lt)
    have HC := Lib.hid (HC.out.kept hb HC.out.lt)
    have HLA := Lib.hid (HLA.out.kept hb)
    have HLC := Lib.hid (HLC.out.kept hb)
    have HP := Lib.hid (HP.out.below hb)
    have HB := Lib.hid (HB.out.trans (hb.mono HB.out.size))
    clear hb
    obtain ⟨c0, c1, c2, c3, c4, c5, c6, c7⟩ := HC.out.cells
    go_wp2_with fail
    refine (HGG1.out _ HLC.out).mono ?_
    rintro e w3 ⟨rfl, hb⟩
    clear c0 c1 c2 c3 c4 c5 c6 c7
    have HA := Lib.hid (HA.out.kept hb HA.out.lt)
    have HC := Lib.hid (HC.out.kept hb HC.out.lt)
    have HLA := Lib.hid (HLA.out.kept hb)
    have HLC := Lib.hid (HLC.out.kept hb)
    have HP := Lib.hid (HP.out.below hb)
    have HB := Lib.hid (HB.out.trans (hb.mono HB.out.size))
    clear hb
    obtain ⟨a0, a1, a2, a3, a4, a5, a6, a7⟩ := HA.out.cells
    obtain ⟨c0, c1, c2, c3, c4, c5, c6, c7⟩ := HC.out.cells
    go_wp2
    go_ret
    exact ⟨rfl, HB.out⟩
  cases q3 : (t0.d.n != 0)
  rotate_left
  · go_enter Tryz.func4, Tryz.ntmps4
    go_wp2_with fail
    refine (HT.out _).mono ?_
    rintro e w1 ⟨rfl, hb⟩
    have HA := Lib.hid (HA.out.kept hb HA.out.lt)
    have HC := Lib.hid (HC.out.kept hb HC.out.lt)
    have HLA := Lib.hid (HLA.out.kept hb)
    have HLC := Lib.hid (HLC.out.kept hb)
    have HP := Lib.hid (HP.out.below hb)
    have HB := Lib.hid (HB.out.trans (hb.mono HB.out.size))
    clear hb
    obtain ⟨a0, a1, a2, a3, a4, a5, a6, a7⟩ := HA.out.cells
    go_wp2_with fail
    refine (HGG0.out _ HLA.out).mono ?_
    rintro e w2 ⟨rfl, hb⟩
    clear a0 a1 a2 a3 a4 a5 a6 a7
    have HA := Lib.hid (HA.out.kept hb HA.out.lt)
    have HC := Lib.hid (HC.out.kept hb HC.out.lt)
    have HLA := Lib.hid (HLA.out.kept hb)
    have HLC := Lib.hid (HLC.out.kept hb)
    have HP := Lib.hid (HP.out.below hb)
    have HB := Lib.hid (HB.out.trans (hb.mono HB.out.size))
    clear hb
    obtain ⟨c0, c1, c2, c3, c4, c5, c6, c7⟩ := HC.out.cells
    go_wp2_with fail
    refine (HGG1.out _ HLC.out).mono ?_
    rintro e w3 ⟨rfl, hb⟩
    clear c0 c1 c2 c3 c4 c5 c6 c7
    have HA := Lib.hid (HA.out.kept hb HA.out.lt)
    have HC := Lib.hid (HC.out.kept hb HC.out.lt)
    have HLA := Lib.hid (HLA.out.kept hb)
    have HLC := Lib.hid (HLC.out.kept hb)
    have HP := Lib.hid (HP.out.below hb)
    have HB := Lib.hid (HB.out.trans (hb.mono HB.out.size))
    clear hb
    obtain ⟨a0, a1, a2, a3, a4, a5, a6, a7⟩ := HA.out.cells
    obtain ⟨c0, c1, c2, c3, c4, c5, c6, c7⟩ := HC.out.cells
    go_wp2
    go_ret
    exact ⟨rfl, HB.out⟩
  cases q4 : (t1.d.n != 0)
  rotate_left
  · go_enter Tryz.func4, Tryz.ntmps4
    go_wp2_with fail
    refine (HT.out _).mono ?_
    rintro e w1 ⟨rfl, hb⟩
    have HA := Lib.hid (HA.out.kept hb HA.out.lt)
    have HC := Lib.hid (HC.out.kept hb HC.out.lt)
    have HLA := Lib.hid (HLA.out.kept hb)
    have HLC := Lib.hid (HLC.out.kept hb)
    have HP := Lib.hid (HP.out.below hb)
    have HB := Lib.hid (HB.out.trans (hb.mono HB.out.size))
    clear hb
    obtain ⟨a0, a1, a2, a3, a4, a5, a6, a7⟩ := HA.out.cells
    go_wp2_with fail
    refine (HGG0.out _ HLA.out).mono ?_
    rintro e w2 ⟨rfl, hb⟩
    clear a0 a1 a2 a3 a4 a5 a6 a7
    have HA := Lib.hid (HA.out.kept hb HA.out.lt)
    have HC := Lib.hid (HC.out.kept hb HC.out.lt)
    have HLA := Lib.hid (HLA.out.kept hb)
    have HLC := Lib.hid (HLC.out.kept hb)
    have HP := Lib.hid (HP.out.below hb)
    have HB := Lib.hid (HB.out.trans (hb.mono HB.out.size))
    clear hb
    obtain ⟨c0, c1, c2, c3, c4, c5, c6, c7⟩ := HC.out.cells
    go_wp2_with fail
    refine (HGG1.out _ HLC.out).mono ?_
    rintro e w3 ⟨rfl, hb⟩
    clear c0 c1 c2 c3 c4 c5 c6 c7
    have HA := Lib.hid (HA.out.kept hb HA.out.lt)
    have HC := Lib.hid (HC.out.kept hb HC.out.lt)
    have HLA := Lib.hid (HLA.out.kept hb)
    have HLC := Lib.hid (HLC.out.kept hb)
    have HP := Lib.hid (HP.out.below hb)
    have HB := Lib.hid (HB.out.trans (hb.mono HB.out.size))
    clear hb
    obtain ⟨a0, a1, a2, a3, a4, a5, a6, a7⟩ := HA.out.cells
    obtain ⟨c0, c1, c2, c3, c4, c5, c6, c7⟩ := HC.out.cells
    go_wp2
    go_ret
    exact ⟨rfl, HB.out⟩
  have hz0 : size t0 ≤ 65536 := by have := HZ0.out; simp at this; omega
  have hz1 : size t1 ≤ 65536 := by have := HZ1.out; simp at this; omega
  have h4 := four_nil q2
  have HPL0 := Lib.hid (show Plain t0.d from ⟨by simpa using q0, h4.1, h4.2.2.1, by simpa using q3⟩)
  have HPL1 := Lib.hid (show Plain t1.d from ⟨by simpa using q1, h4.2.1, h4.2.2.2, by simpa using q4⟩)
  have HSZ := Lib.hid (And.intro hz0 hz1)
  have hlen0 : t0.kids.length ≤ 65536 := by have := size_mk t0; have := length_sizes t0.kids; omega
  have hlen1 : t1.kids.length ≤ 65536 := by have := size_mk t1; have := length_sizes t1.kids; omega
  clear h4
  have HFB := Lib.hid (fit_both HF0.out HF1.out hz0 hz1)
  obtain ⟨sz0, hs0⟩ : ∃ x, size t0 = x := ⟨_, rfl⟩
  obtain ⟨sz1, hs1⟩ : ∃ x, size t1 = x := ⟨_, rfl⟩
  obtain ⟨szb, hsb⟩ : ∃ x, size (bothT t0 t1) = x := ⟨_, rfl⟩
  obtain ⟨dp0, hd0⟩ : ∃ x, depth t0 = x := ⟨_, rfl⟩
  obtain ⟨dp1, hd1⟩ : ∃ x, depth t1 = x := ⟨_, rfl⟩
  obtain ⟨dpb, hdb⟩ : ∃ x, depth (bothT t0 t1) = x := ⟨_, rfl⟩
  have hle0 := depths_le_sizes t0
  have hle1 := depths_le_sizes t1
  have hsum := size_both t0 t1
  have hmax := depth_both t0 t1
  have hpos0 := size_pos t0
  rw [hs0, hd0] at hle0
  rw [hs1, hd1] at hle1
  rw [hs0, hs1, hsb] at hsum
  rw [hd0, hd1, hdb] at hmax
  rw [hs0] at hz0 hpos0
  rw [hs1] at hz1
  have HS0 := Lib.hid hs0
  have HS1 := Lib.hid hs1
  have HSB := Lib.hid hsb
  have HD0 := Lib.hid hd0
  have HD1 := Lib.hid hd1
  have HDB := Lib.hid hdb
  have hb0 : sz0 ≤ 65536 := hz0
  have hb1 : sz1 ≤ 65536 := hz1
  have hb2 : dp0 ≤ 65536 := by omega
  have hb3 : dp1 ≤ 65536 := by omega
  have hcnt : ((szb : Int) == (sz0 : Int) + (sz1 : Int) - 1) = true := by
    rw [beq_iff_eq]; omega
  have hmx : max (dp0 : Int) (dp1 : Int) = (dpb : Int) := by omega
  obtain ⟨rA, hrA⟩ : ∃ x, rightT t0 = x := ⟨_, rfl⟩
  obtain ⟨rC, hrC⟩ : ∃ x, rightT t1 = x := ⟨_, rfl⟩
  obtain ⟨rX, hrX⟩ : ∃ x, rightT (bothT t0 t1) = x := ⟨_, rfl⟩
  obtain ⟨tA, htA⟩ : ∃ x, textS t0 = x := ⟨_, rfl⟩
  obtain ⟨tC, htC⟩ : ∃ x, textS t1 = x := ⟨_, rfl⟩
  obtain ⟨tX, htX⟩ : ∃ x, textS (bothT t0 t1) = x := ⟨_, rfl⟩
  have hrb := right_both HPL0.out HPL1.out
  rw [hrA, hrC, hrX] at hrb
  have hmA : rA = 0 → tA.size ≤ most := fun h => by
    rw [← htA]; unfold textS; rw [if_pos (hrA.trans h)]
    have := Twp.text_most t0 HF0.out (by omega) (hrA.trans h)
    simpa [ByteArray.size] using this
  have hmC : rC = 0 → tC.size ≤ most := fun h => by
    rw [← htC]; unfold textS; rw [if_pos (hrC.trans h)]
    have := Twp.text_most t1 HF1.out (by omega) (hrC.trans h)
    simpa [ByteArray.size] using this
  have htb : rA = 0 → rC = 0 → tX = tA ++ tC := fun h1 h2 => by
    have h3 := hrb.2 ⟨h1, h2⟩
    have := textS_both (hrA.trans h1) (hrC.trans h2) (hrX.trans h3)
    rw [htA, htC, htX] at this
    cases tX; cases tA; cases tC
    simp only [ByteArray.mk.injEq] at this ⊢
    apply ByteArray.ext
    exact Array.toList_inj.1 (by simpa using this)
  have HRA := Lib.hid hrA
  have HRC := Lib.hid hrC
  have HRX := Lib.hid hrX
  have HTA := Lib.hid htA
  have HTC := Lib.hid htC
  have HTX := Lib.hid htX
  clear hs0 hs1 hsb hd0 hd1 hdb hle0 hle1 hsum hmax hpos0 hrA hrC hrX htA htC htX
  have hcase : (rA = 0 ∧ rC = 0 ∧ rX = 0 ∧ tX = tA ++ tC ∧ tA.size ≤ most ∧ tC.size ≤ most) ∨ ((rA == 0) = false ∧ (rX == 0) = false) ∨ ((rA == 0) = true ∧ (rC == 0) = false ∧ (rX == 0) = false) := by
    by_cases h1 : rA = 0
    · by_cases h2 : rC = 0
      · exact .inl ⟨h1, h2, hrb.2 ⟨h1, h2⟩, htb h1 h2, hmA h1, hmC h2⟩
      · exact .inr (.inr ⟨by rw [h1]; rfl, beq_false_of_ne h2, beq_false_of_ne fun h => h2 (hrb.1 h).2⟩)
    · exact .inr (.inl ⟨beq_false_of_ne h1, beq_false_of_ne fun h => h1 (hrb.1 h).1⟩)
  clear hrb hmA hmC htb
  unfold most at hcase
  rcases hcase with ⟨rfl, rfl, rfl, rfl, hq1, hq2⟩ | ⟨hq1, hq2⟩ | ⟨hq1, hq2, hq3⟩
  all_goals
    go_enter Tryz.func4, Tryz.ntmps4
    go_wp2_with fail
    refine (HT.out _).mono ?_
    rintro e w1 ⟨rfl, hb⟩
    have HA := Lib.hid (HA.out.kept hb HA.out.lt)
    have HC := Lib.hid (HC.out.kept hb HC.out.lt)
    have HLA := Lib.hid (HLA.out.kept hb)
    have HLC := Lib.hid (HLC.out.kept hb)
    have HP := Lib.hid (HP.out.below hb)
    have HB := Lib.hid (HB.out.trans (hb.mono HB.out.size))
    clear hb
    obtain ⟨a0, a1, a2, a3, a4, a5, a6, a7⟩ := HA.out.cells
    go_wp2_with fail
    refine (HGG0.out _ HLA.out).mono ?_
    rintro e w2 ⟨rfl, hb⟩
    clear a0 a1 a2 a3 a4 a5 a6 a7
    have HA := Lib.hid (HA.out.kept hb HA.out.lt)
    have HC := Lib.hid (HC.out.kept hb HC.out.lt)
    have HLA := Lib.hid (HLA.out.kept hb)
    have HLC := Lib.hid (HLC.out.kept hb)
    have HP := Lib.hid (HP.out.below hb)
    have HB := Lib.hid (HB.out.trans (hb.mono HB.out.size))
    clear hb
    obtain ⟨c0, c1, c2, c3, c4, c5, c6, c7⟩ := HC.out.cells
    go_wp2_with fail
    refine (HGG1.out _ HLC.out).mono ?_
    rintro e w3 ⟨rfl, hb⟩
    clear c0 c1 c2 c3 c4 c5 c6 c7
    have HA := Lib.hid (HA.out.kept hb HA.out.lt)
    have HC := Lib.hid (HC.out.kept hb HC.out.lt)
    have HLA := Lib.hid (HLA.out.kept hb)
    have HLC := Lib.hid (HLC.out.kept hb)
    have HP := Lib.hid (HP.out.below hb)
    have HB := Lib.hid (HB.out.trans (hb.mono HB.out.size))
    clear hb
    obtain ⟨a0, a1, a2, a3, a4, a5, a6, a7⟩ := HA.out.cells
    obtain ⟨c0, c1, c2, c3, c4, c5, c6, c7⟩ := HC.out.cells
    go_wp2_with fail
    clear a0 a1 a2 a3 a4 a5 a6 a7 c0 c1 c2 c3 c4 c5 c6 c7
    clear q0 q1 q2 q3 q4 hz0 hz1
    have HSA : Hid (∀ W', Below w3.heap.size w3 W' → (W'.cell? ⟨W.heap.size, 7, none⟩ = some (.slice ad0 t0.kids.length c0) ∧ W'.cell? ⟨W.heap.size + 1, 7, none⟩ = some (.slice ad1 t1.kids.length c1))) := fun W' hb => ⟨(HA.out.kept hb HA.out.lt).cells.2.2.2.2.2.2.2, (HC.out.kept hb HC.out.lt).cells.2.2.2.2.2.2.2⟩
    refine wp_region_held_drew (S := fun W' => (W'.cell? ⟨W.heap.size, 7, none⟩ = some (.slice ad0 t0.kids.length c0) ∧ W'.cell? ⟨W.heap.size + 1, 7, none⟩ = some (.slice ad1 t1.kids.length c1))) (by kernel_rfl) (HSA.out _ (Below.refl _ w3).drew) (fun hHeld => ?_)
    change wpAnyH _ _ _ _ _ 10 #[false, false, false, false, false, false, false, false, false, false] _ _
    have hbw : Below w3.heap.size w3 w3.drew := (Below.refl _ w3).drew
    have HBW := Lib.hid hbw
    obtain ⟨wd, hwd⟩ : ∃ Z, Z = w3.drew := ⟨_, rfl⟩
    rw [← hwd] at HBW hHeld
    rw [← hwd]
    clear hbw hwd
    refine wpAnyH_take (i := 1) (v := ?_) rfl (by kernel_rfl) (by kernel_rfl) (by kernel_rfl) (fun _ _ _ h => h) (Or.inl ⟨by rfl, ?_⟩) hHeld ?_
    rotate_left
    · intro w hSw
      try dsimp only at hSw
      go_simp
      with_reducible rfl
    try dsimp only [Act.put, List.getElem_toArray, List.getElem_cons_zero, List.getElem_cons_succ]
    try simp only [List.setIfInBounds_toArray, List.set_cons_zero, List.set_cons_succ]
    refine wpAnyH_take (i := 2) (v := ?_) rfl (by kernel_rfl) (by kernel_rfl) (by kernel_rfl) (fun _ _ _ h => h) (Or.inl ⟨by rfl, ?_⟩) hHeld ?_
    rotate_left
    · intro w hSw
      try dsimp only at hSw
      go_simp
      with_reducible rfl
    try dsimp only [Act.put, List.getElem_toArray, List.getElem_cons_zero, List.getElem_cons_succ]
    try simp only [List.setIfInBounds_toArray, List.set_cons_zero, List.set_cons_succ]
    refine wpAnyH_take (i := 4) (v := ?_) rfl (by kernel_rfl) (by kernel_rfl) (by kernel_rfl) (fun _ _ _ h => h) (Or.inl ⟨by rfl, ?_⟩) hHeld ?_
    rotate_left
    · intro w hSw
      try dsimp only at hSw
      go_simp
      with_reducible rfl
    try dsimp only [Act.put, List.getElem_toArray, List.getElem_cons_zero, List.getElem_cons_succ]
    try simp only [List.setIfInBounds_toArray, List.set_cons_zero, List.set_cons_succ]
    refine wpAnyH_take (i := 5) (v := ?_) rfl (by kernel_rfl) (by kernel_rfl) (by kernel_rfl) (fun _ _ _ h => h) (Or.inl ⟨by rfl, ?_⟩) hHeld ?_
    rotate_left
    · intro w hSw
      try dsimp only at hSw
      go_simp
      with_reducible rfl
    try dsimp only [Act.put, List.getElem_toArray, List.getElem_cons_zero, List.getElem_cons_succ]
    try simp only [List.setIfInBounds_toArray, List.set_cons_zero, List.set_cons_succ]
    obtain ⟨za, hza⟩ := Src8.of (d := t0.d) (ks := t0.kids) (a := ad0) (n := t0.kids.length) (c := c0) (show Lies w3 (fun _ => True) (.mk t0.d t0.kids) _ by have := HLA.out; obtain ⟨dd, kk⟩ := t0; exact this)
    obtain ⟨zb, hzb⟩ := Src8.of (d := t1.d) (ks := t1.kids) (a := ad1) (n := t1.kids.length) (c := c1) (show Lies w3 (fun _ => True) (.mk t1.d t1.kids) _ by have := HLC.out; obtain ⟨dd, kk⟩ := t1; exact this)
    have HZA := Lib.hid hza
    have HZB := Lib.hid hzb
    have hzl : za.length ≤ 65536 := by rw [hza.len]; exact hlen0
    have hg3 : w3.heap.size ≤ wd.heap.size := HBW.out.size
    clear hza hzb
    refine wpAnyH_ready (rs := [0, 8]) (by kernel_rfl) (by simp) ?_
    refine AllReadyH.cons rfl (fun K hKK => ?_) (AllReadyH.cons rfl (fun K hKK => ?_) AllReadyH.nil)
    · go_simp
      have hr := RowS.start HBW.out
      obtain ⟨gs, hgs⟩ : ∃ g, g = wd.heap.size := ⟨_, rfl⟩
      obtain ⟨wa1, hw⟩ : ∃ Z, Z = wd.alloc (.cells #[] 25) := ⟨_, rfl⟩
      rw [← hw, ← hgs] at hr
      rw [← hw, ← hgs]
      have HR := Lib.hid hr
      have HBW : Hid (Below w3.heap.size w3 wa1) := hr.below
      have hgg : w3.heap.size ≤ wa1.heap.size := hr.below.size
      clear hr hgs hw
      refine hKK.out _ _ (HSA.out _ HBW.out) (fun hHeld => ?_)
      clear hKK K
      try dsimp only [Act.put, List.getElem_toArray, List.getElem_cons_zero, List.getElem_cons_succ]
      try simp only [List.setIfInBounds_toArray, List.set_cons_zero, List.set_cons_succ]
      refine wpAnyH_ready (rs := [3, 8]) (by kernel_rfl) (by simp) ?_
      refine AllReadyH.cons rfl (fun K hKK => ?_) (AllReadyH.cons rfl (fun K hKK => ?_) AllReadyH.nil)
      · refine step_app8 (by rfl) _ _ (by rfl) w3 _ _ wa1 HR.out (by rfl) t0.kids ad0 za c0 (by rfl) HZA.out (by simp; omega) ?_
        intro x2 n2 c2x wa2 hr hbx
        have HR := Lib.hid hr
        have HBW : Hid (Below w3.heap.size w3 wa2) := hr.below
        clear hr hbx
        refine hKK.out _ _ (HSA.out _ HBW.out) (fun hHeld => ?_)
        clear hKK K
        try dsimp only [Act.put, List.getElem_toArray, List.getElem_cons_zero, List.getElem_cons_succ]
        try simp only [List.setIfInBounds_toArray, List.set_cons_zero, List.set_cons_succ]
        refine wpAnyH_ready (rs := [6, 8]) (by kernel_rfl) (by simp) ?_
        refine AllReadyH.cons rfl (fun K hKK => ?_) (AllReadyH.cons rfl (fun K hKK => ?_) AllReadyH.nil)
        · refine step_app8 (by rfl) _ _ (by rfl) w3 _ _ wa2 HR.out (by rfl) t1.kids ad1 zb c1 (by rfl) HZB.out (by simp; omega) ?_
          intro x3 n3 c3x wa3 hr hbx
          have HR := Lib.hid hr
          have HBW : Hid (Below w3.heap.size w3 wa3) := hr.below
          clear hr hbx
          refine hKK.out _ _ (HSA.out _ HBW.out) (fun hHeld => ?_)
          clear hKK K
          try dsimp only [Act.put, List.getElem_toArray, List.getElem_cons_zero, List.getElem_cons_succ]
          try simp only [List.setIfInBounds_toArray, List.set_cons_zero, List.set_cons_succ]
          refine wpAnyH_take (i := 7) (v := ?_) rfl (by kernel_rfl) (by kernel_rfl) (by kernel_rfl) (fun _ _ _ h => h) (Or.inl ⟨by rfl, ?_⟩) hHeld ?_
          rotate_left
          · intro w hSw
            try dsimp only at hSw
            go_simp
            with_reducible rfl
          try dsimp only [Act.put, List.getElem_toArray, List.getElem_cons_zero, List.getElem_cons_succ]
          try simp only [List.setIfInBounds_toArray, List.set_cons_zero, List.set_cons_succ]
          refine wpAnyH_ready (rs := [8]) (by kernel_rfl) (by simp) ?_
          refine AllReadyH.cons rfl (fun K hKK => ?_) AllReadyH.nil
          go_simp
          obtain ⟨hr, hx⟩ := HR.out.box
          obtain ⟨g8, hg8⟩ : ∃ g, g = wa3.heap.size := ⟨_, rfl⟩
          obtain ⟨wa4, hw⟩ : ∃ Z, Z = wa3.alloc (.cells zrow 25) := ⟨_, rfl⟩
          have hg8l : w3.heap.size ≤ g8 := by rw [hg8]; exact HR.out.base
          rw [← hw] at hr hx
          rw [← hg8] at hx
          rw [← hg8, ← hw]
          have HR := Lib.hid hr
          have HX8 := Lib.hid hx
          have HBW : Hid (Below w3.heap.size w3 wa4) := hr.below
          clear hr hx hw hg8
          refine hKK.out _ _ (HSA.out _ HBW.out) (fun hHeld => ?_)
          clear hKK K
          try dsimp only [Act.put, List.getElem_toArray, List.getElem_cons_zero, List.getElem_cons_succ]
          try simp only [List.setIfInBounds_toArray, List.set_cons_zero, List.set_cons_succ]
          refine wpAnyH_ready (rs := [9]) (by kernel_rfl) (by simp) ?_
          refine AllReadyH.cons rfl (fun K hKK => ?_) AllReadyH.nil
          obtain ⟨hc8, hf8⟩ := row_cells8 (d := ⟨0, ⟨#[]⟩, 0, ⟨#[]⟩, 0, 0, 0⟩) (a := none) (n := 0) (c := 0) HX8.out.blk
          have z0 := hc8 0 (by omega)
          have f0 := hf8 0
          have z1 := hc8 1 (by omega)
          have f1 := hf8 1
          have z2 := hc8 2 (by omega)
          have f2 := hf8 2
          have z3 := hc8 3 (by omega)
          have f3 := hf8 3
          have z4 := hc8 4 (by omega)
          have f4 := hf8 4
          have z5 := hc8 5 (by omega)
          have f5 := hf8 5
          have z6 := hc8 6 (by omega)
          have f6 := hf8 6
          have z7 := hc8 7 (by omega)
          have f7 := hf8 7
          simp only [List.getElem?_cons_succ, List.getElem?_cons_zero] at z0 z1 z2 z3 z4 z5 z6 z7
          clear hc8 hf8
          go_simp
          clear z0 z1 z2 z3 z4 z5 z6 z7 f0 f1 f2 f3 f4 f5 f6 f7
          have hfin := fin HR.out HX8.out hg8l HZA.out HZB.out
          unfold put8 at hfin
          obtain ⟨w7, hw⟩ : ∃ Z, Z = (((((((wa4.setCell ⟨g8, 0, none⟩ (.int .i64 1)).setCell ⟨g8, 1, none⟩ (.string ⟨#[]⟩)).setCell ⟨g8, 2, none⟩ (.int .i64 0)).setCell ⟨g8, 3, none⟩ (.string ⟨#[]⟩)).setCell ⟨g8, 4, none⟩ (.int .i64 0)).setCell ⟨g8, 5, none⟩ (.int .i64 0)).setCell ⟨g8, 6, none⟩ (.int .i64 0)).setCell ⟨g8, 7, none⟩ (.slice x3 n3 c3x) := ⟨_, rfl⟩
          rw [← hw]
          change _ ∧ Bx _ _ _ _ _ _ ∧ _ ∧ _ at hfin
          have hfin : n3 = (bothT t0 t1).kids.length ∧ Bx w7 g8 (bothT t0 t1).d x3 n3 c3x ∧ Lies w7 (fun _ => True) (bothT t0 t1) ((bothT t0 t1).d.val x3 n3 c3x) ∧ Below w3.heap.size w3 w7 := by rw [hw]; exact hfin
          obtain ⟨hnn, hbx, hlx, hb⟩ := hfin
          refine hKK.out _ _ (HSA.out _ hb) (fun hHeld => ?_)
          clear hKK K hHeld hw
          try dsimp only [Act.put, List.getElem_toArray, List.getElem_cons_zero, List.getElem_cons_succ]
          try simp only [List.setIfInBounds_toArray, List.set_cons_zero, List.set_cons_succ]
          refine wpAnyH_done (by kernel_rfl) ?_ _
          have hB3 := HB.out.trans (hb.mono HB.out.size)
          have HA := Lib.hid (HA.out.kept hb HA.out.lt)
          have HC := Lib.hid (HC.out.kept hb HC.out.lt)
          have HLA := Lib.hid (HLA.out.kept hb)
          have HLC := Lib.hid (HLC.out.kept hb)
          have HP := Lib.hid (HP.out.below hb)
          have HB := Lib.hid hB3
          rw [hnn] at hbx
          have HX := Lib.hid hbx
          have HLX := Lib.hid hlx
          clear hb hB3 hbx hlx
          clear HT HGG0 HGG1 HZ0 HZ1 HR HX8 HBW HSA HZA HZB ht0 ht1 ht2 ht3
          subst hnn
          obtain ⟨a0, a1, a2, a3, a4, a5, a6, a7⟩ := HA.out.cells
          go_wp2_with fail
          have hct := text_any2 t0 HF0.out (by have := HSZ.out.1; omega) _ _ _ HP.out HLA.out
          rw [HTA.out, HRA.out] at hct
          refine hct.mono ?_
          clear hct
          rintro e w11 ⟨rfl, hb⟩
          clear a0 a1 a2 a3 a4 a5 a6 a7
          have HA := Lib.hid (HA.out.kept hb HA.out.lt)
          have HC := Lib.hid (HC.out.kept hb HC.out.lt)
          have HX := Lib.hid (HX.out.kept hb HX.out.lt)
          have HLA := Lib.hid (HLA.out.kept hb)
          have HLC := Lib.hid (HLC.out.kept hb)
          have HLX := Lib.hid (HLX.out.kept hb)
          have HP := Lib.hid (HP.out.below hb)
          have HB := Lib.hid (HB.out.trans (hb.mono HB.out.size))
          clear hb
          obtain ⟨c0, c1, c2, c3, c4, c5, c6, c7⟩ := HC.out.cells
          go_wp2_with fail
          have hct := text_any2 t1 HF1.out (by have := HSZ.out.2; omega) _ _ _ HP.out HLC.out
          rw [HTC.out, HRC.out] at hct
          refine hct.mono ?_
          clear hct
          rintro e w12 ⟨rfl, hb⟩
          clear c0 c1 c2 c3 c4 c5 c6 c7
          have HA := Lib.hid (HA.out.kept hb HA.out.lt)
          have HC := Lib.hid (HC.out.kept hb HC.out.lt)
          have HX := Lib.hid (HX.out.kept hb HX.out.lt)
          have HLA := Lib.hid (HLA.out.kept hb)
          have HLC := Lib.hid (HLC.out.kept hb)
          have HLX := Lib.hid (HLX.out.kept hb)
          have HP := Lib.hid (HP.out.below hb)
          have HB := Lib.hid (HB.out.trans (hb.mono HB.out.size))
          clear hb
          obtain ⟨x0, x1, x2, x3, x4, x5, x6, x7⟩ := HX.out.cells
          go_wp2_with fail
          have hct := text_any2 (bothT t0 t1) HFB.out (by have := HSZ.out; have := size_both t0 t1; omega) _ _ _ HP.out HLX.out
          rw [HTX.out, HRX.out] at hct
          refine hct.mono ?_
          clear hct
          rintro e w13 ⟨rfl, hb⟩
          clear x0 x1 x2 x3 x4 x5 x6 x7
          have HA := Lib.hid (HA.out.kept hb HA.out.lt)
          have HC := Lib.hid (HC.out.kept hb HC.out.lt)
          have HX := Lib.hid (HX.out.kept hb HX.out.lt)
          have HLA := Lib.hid (HLA.out.kept hb)
          have HLC := Lib.hid (HLC.out.kept hb)
          have HLX := Lib.hid (HLX.out.kept hb)
          have HP := Lib.hid (HP.out.below hb)
          have HB := Lib.hid (HB.out.trans (hb.mono HB.out.size))
          clear hb
          go_wp2_with fail
          have HCA := Tqb.reg (w := w13) (f := 12) (args := #[t0.d.val ad0 t0.kids.length c0, .int .i64 262144]) (v := .int .i64 (sz0 : Int)) fun W hb => by
            have := count_int 262144 (by omega) t0 HF0.out (by have := HSZ.out.1; omega) _ _ W (HLA.out.kept hb)
            rw [cnt_of (by have := HSZ.out.1; omega), HS0.out] at this; exact this
          have HCC := Tqb.reg (w := w13) (f := 12) (args := #[t1.d.val ad1 t1.kids.length c1, .int .i64 262144]) (v := .int .i64 (sz1 : Int)) fun W hb => by
            have := count_int 262144 (by omega) t1 HF1.out (by have := HSZ.out.2; omega) _ _ W (HLC.out.kept hb)
            rw [cnt_of (by have := HSZ.out.2; omega), HS1.out] at this; exact this
          obtain ⟨a0, a1, a2, a3, a4, a5, a6, a7⟩ := HA.out.cells
          obtain ⟨c0, c1, c2, c3, c4, c5, c6, c7⟩ := HC.out.cells
          have ga0 := cell_regrown a0
          have gc0 := cell_regrown c0
          have ga1 := cell_regrown a1
          have gc1 := cell_regrown c1
          have ga2 := cell_regrown a2
          have gc2 := cell_regrown c2
          have ga3 := cell_regrown a3
          have gc3 := cell_regrown c3
          have ga4 := cell_regrown a4
          have gc4 := cell_regrown c4
          have ga5 := cell_regrown a5
          have gc5 := cell_regrown c5
          have ga6 := cell_regrown a6
          have gc6 := cell_regrown c6
          have ga7 := cell_regrown a7
          have gc7 := cell_regrown c7
          refine wp_region_quiet_below (by kernel_rfl) (by kernel_rfl) ?_
          repeat (go_big_quiet_step (first | with_reducible exact HCA.out _ _ | with_reducible exact HCC.out _ _ | fail))
          refine wpQuiet_nil ?_
          intro w14 hwz
          have hb := Drw.cls_below (w := w13) hwz
          clear hwz HCA HCC ga0 gc0 ga1 gc1 ga2 gc2 ga3 gc3 ga4 gc4 ga5 gc5 ga6 gc6 ga7 gc7
          clear a0 a1 a2 a3 a4 a5 a6 a7 c0 c1 c2 c3 c4 c5 c6 c7
          have HA := Lib.hid (HA.out.kept hb HA.out.lt)
          have HC := Lib.hid (HC.out.kept hb HC.out.lt)
          have HX := Lib.hid (HX.out.kept hb HX.out.lt)
          have HLA := Lib.hid (HLA.out.kept hb)
          have HLC := Lib.hid (HLC.out.kept hb)
          have HLX := Lib.hid (HLX.out.kept hb)
          have HP := Lib.hid (HP.out.below hb)
          have HB := Lib.hid (HB.out.trans (hb.mono HB.out.size))
          clear hb
          go_wp2_with fail
          have HDA := Tqb.reg (w := w14) (f := 13) (args := #[t0.d.val ad0 t0.kids.length c0, .int .i64 262144]) (v := .int .i64 (dp0 : Int)) fun W hb => by
            have := depth_int 262144 (by omega) t0 HF0.out (by have := HSZ.out.1; omega) _ _ W (HLA.out.kept hb)
            rw [dep_of (by have := HSZ.out.1; omega), HD0.out] at this; exact this
          have HDC := Tqb.reg (w := w14) (f := 13) (args := #[t1.d.val ad1 t1.kids.length c1, .int .i64 262144]) (v := .int .i64 (dp1 : Int)) fun W hb => by
            have := depth_int 262144 (by omega) t1 HF1.out (by have := HSZ.out.2; omega) _ _ W (HLC.out.kept hb)
            rw [dep_of (by have := HSZ.out.2; omega), HD1.out] at this; exact this
          obtain ⟨a0, a1, a2, a3, a4, a5, a6, a7⟩ := HA.out.cells
          obtain ⟨c0, c1, c2, c3, c4, c5, c6, c7⟩ := HC.out.cells
          have ga0 := cell_regrown a0
          have gc0 := cell_regrown c0
          have ga1 := cell_regrown a1
          have gc1 := cell_regrown c1
          have ga2 := cell_regrown a2
          have gc2 := cell_regrown c2
          have ga3 := cell_regrown a3
          have gc3 := cell_regrown c3
          have ga4 := cell_regrown a4
          have gc4 := cell_regrown c4
          have ga5 := cell_regrown a5
          have gc5 := cell_regrown c5
          have ga6 := cell_regrown a6
          have gc6 := cell_regrown c6
          have ga7 := cell_regrown a7
          have gc7 := cell_regrown c7
          refine wp_region_quiet_below (by kernel_rfl) (by kernel_rfl) ?_
          repeat (go_big_quiet_step (first | with_reducible exact HDA.out _ _ | with_reducible exact HDC.out _ _ | fail))
          refine wpQuiet_nil ?_
          intro w15 hwz
          have hb := Drw.cls_below (w := w14) hwz
          clear hwz HDA HDC ga0 gc0 ga1 gc1 ga2 gc2 ga3 gc3 ga4 gc4 ga5 gc5 ga6 gc6 ga7 gc7
          clear a0 a1 a2 a3 a4 a5 a6 a7 c0 c1 c2 c3 c4 c5 c6 c7
          have HA := Lib.hid (HA.out.kept hb HA.out.lt)
          have HC := Lib.hid (HC.out.kept hb HC.out.lt)
          have HX := Lib.hid (HX.out.kept hb HX.out.lt)
          have HLA := Lib.hid (HLA.out.kept hb)
          have HLC := Lib.hid (HLC.out.kept hb)
          have HLX := Lib.hid (HLX.out.kept hb)
          have HP := Lib.hid (HP.out.below hb)
          have HB := Lib.hid (HB.out.trans (hb.mono HB.out.size))
          clear hb
          obtain ⟨x0, x1, x2, x3, x4, x5, x6, x7⟩ := HX.out.cells
          go_wp2_with fail
          have hcc := count_int 262144 (by omega) (bothT t0 t1) HFB.out (by have := HSZ.out; have := size_both t0 t1; omega) _ _ _ HLX.out
          rw [cnt_of (by have := HSZ.out; have := size_both t0 t1; omega), HSB.out] at hcc
          refine hcc.mono ?_
          clear hcc
          rintro e w16 ⟨rfl, hb⟩
          clear x0 x1 x2 x3 x4 x5 x6 x7
          have HA := Lib.hid (HA.out.kept hb HA.out.lt)
          have HC := Lib.hid (HC.out.kept hb HC.out.lt)
          have HX := Lib.hid (HX.out.kept hb HX.out.lt)
          have HLA := Lib.hid (HLA.out.kept hb)
          have HLC := Lib.hid (HLC.out.kept hb)
          have HLX := Lib.hid (HLX.out.kept hb)
          have HP := Lib.hid (HP.out.below hb)
          have HB := Lib.hid (HB.out.trans (hb.mono HB.out.size))
          clear hb
          obtain ⟨x0, x1, x2, x3, x4, x5, x6, x7⟩ := HX.out.cells
          go_wp2_with fail
          have hcc := depth_int 262144 (by omega) (bothT t0 t1) HFB.out (by have := HSZ.out; have := size_both t0 t1; omega) _ _ _ HLX.out
          rw [dep_of (by have := HSZ.out; have := size_both t0 t1; omega), HDB.out] at hcc
          refine hcc.mono ?_
          clear hcc
          rintro e w17 ⟨rfl, hb⟩
          clear x0 x1 x2 x3 x4 x5 x6 x7
          have HA := Lib.hid (HA.out.kept hb HA.out.lt)
          have HC := Lib.hid (HC.out.kept hb HC.out.lt)
          have HX := Lib.hid (HX.out.kept hb HX.out.lt)
          have HLA := Lib.hid (HLA.out.kept hb)
          have HLC := Lib.hid (HLC.out.kept hb)
          have HLX := Lib.hid (HLX.out.kept hb)
          have HP := Lib.hid (HP.out.below hb)
          have HB := Lib.hid (HB.out.trans (hb.mono HB.out.size))
          clear hb
          go_wp2
          go_ret
          exact ⟨by first | rfl | simp, HB.out⟩
        · go_simp
          obtain ⟨hr, hx⟩ := HR.out.box
          obtain ⟨g8, hg8⟩ : ∃ g, g = wa2.heap.size := ⟨_, rfl⟩
          obtain ⟨wa5, hw⟩ : ∃ Z, Z = wa2.alloc (.cells zrow 25) := ⟨_, rfl⟩
          have hg8l : w3.heap.size ≤ g8 := by rw [hg8]; exact HR.out.base
          rw [← hw] at hr hx
          rw [← hg8] at hx
          rw [← hg8, ← hw]
          have HR := Lib.hid hr
          have HX8 := Lib.hid hx
          have HBW : Hid (Below w3.heap.size w3 wa5) := hr.below
          clear hr hx hw hg8
          refine hKK.out _ _ (HSA.out _ HBW.out) (fun hHeld => ?_)
          clear hKK K
          try dsimp only [Act.put, List.getElem_toArray, List.getElem_cons_zero, List.getElem_cons_succ]
          try simp only [List.setIfInBounds_toArray, List.set_cons_zero, List.set_cons_succ]
          refine wpAnyH_ready (rs := [6]) (by kernel_rfl) (by simp) ?_
          refine AllReadyH.cons rfl (fun K hKK => ?_) AllReadyH.nil
          refine step_app8 (by rfl) _ _ (by rfl) w3 _ _ wa5 HR.out (by rfl) t1.kids ad1 zb c1 (by rfl) HZB.out (by simp; omega) ?_
          intro x6 n6 c6x wa6 hr hbx
          have HX8 := Lib.hid (hbx _ HX8.out)
          have HR := Lib.hid hr
          have HBW : Hid (Below w3.heap.size w3 wa6) := hr.below
          clear hr hbx
          refine hKK.out _ _ (HSA.out _ HBW.out) (fun hHeld => ?_)
          clear hKK K
          try dsimp only [Act.put, List.getElem_toArray, List.getElem_cons_zero, List.getElem_cons_succ]
          try simp only [List.setIfInBounds_toArray, List.set_cons_zero, List.set_cons_succ]
          refine wpAnyH_take (i := 7) (v := ?_) rfl (by kernel_rfl) (by kernel_rfl) (by kernel_rfl) (fun _ _ _ h => h) (Or.inl ⟨by rfl, ?_⟩) hHeld ?_
          rotate_left
          · intro w hSw
            try dsimp only at hSw
            go_simp
            with_reducible rfl
          try dsimp only [Act.put, List.getElem_toArray, List.getElem_cons_zero, List.getElem_cons_succ]
          try simp only [List.setIfInBounds_toArray, List.set_cons_zero, List.set_cons_succ]
          refine wpAnyH_ready (rs := [9]) (by kernel_rfl) (by simp) ?_
          refine AllReadyH.cons rfl (fun K hKK => ?_) AllReadyH.nil
          obtain ⟨hc8, hf8⟩ := row_cells8 (d := ⟨0, ⟨#[]⟩, 0, ⟨#[]⟩, 0, 0, 0⟩) (a := none) (n := 0) (c := 0) HX8.out.blk
          have z0 := hc8 0 (by omega)
          have f0 := hf8 0
          have z1 := hc8 1 (by omega)
          have f1 := hf8 1
          have z2 := hc8 2 (by omega)
          have f2 := hf8 2
          have z3 := hc8 3 (by omega)
          have f3 := hf8 3
          have z4 := hc8 4 (by omega)
          have f4 := hf8 4
          have z5 := hc8 5 (by omega)
          have f5 := hf8 5
          have z6 := hc8 6 (by omega)
          have f6 := hf8 6
          have z7 := hc8 7 (by omega)
          have f7 := hf8 7
          simp only [List.getElem?_cons_succ, List.getElem?_cons_zero] at z0 z1 z2 z3 z4 z5 z6 z7
          clear hc8 hf8
          go_simp
          clear z0 z1 z2 z3 z4 z5 z6 z7 f0 f1 f2 f3 f4 f5 f6 f7
          have hfin := fin HR.out HX8.out hg8l HZA.out HZB.out
          unfold put8 at hfin
          obtain ⟨w7, hw⟩ : ∃ Z, Z = (((((((wa6.setCell ⟨g8, 0, none⟩ (.int .i64 1)).setCell ⟨g8, 1, none⟩ (.string ⟨#[]⟩)).setCell ⟨g8, 2, none⟩ (.int .i64 0)).setCell ⟨g8, 3, none⟩ (.string ⟨#[]⟩)).setCell ⟨g8, 4, none⟩ (.int .i64 0)).setCell ⟨g8, 5, none⟩ (.int .i64 0)).setCell ⟨g8, 6, none⟩ (.int .i64 0)).setCell ⟨g8, 7, none⟩ (.slice x6 n6 c6x) := ⟨_, rfl⟩
          rw [← hw]
          change _ ∧ Bx _ _ _ _ _ _ ∧ _ ∧ _ at hfin
          have hfin : n6 = (bothT t0 t1).kids.length ∧ Bx w7 g8 (bothT t0 t1).d x6 n6 c6x ∧ Lies w7 (fun _ => True) (bothT t0 t1) ((bothT t0 t1).d.val x6 n6 c6x) ∧ Below w3.heap.size w3 w7 := by rw [hw]; exact hfin
          obtain ⟨hnn, hbx, hlx, hb⟩ := hfin
          refine hKK.out _ _ (HSA.out _ hb) (fun hHeld => ?_)
          clear hKK K hHeld hw
          try dsimp only [Act.put, List.getElem_toArray, List.getElem_cons_zero, List.getElem_cons_succ]
          try simp only [List.setIfInBounds_toArray, List.set_cons_zero, List.set_cons_succ]
          refine wpAnyH_done (by kernel_rfl) ?_ _
          have hB3 := HB.out.trans (hb.mono HB.out.size)
          have HA := Lib.hid (HA.out.kept hb HA.out.lt)
          have HC := Lib.hid (HC.out.kept hb HC.out.lt)
          have HLA := Lib.hid (HLA.out.kept hb)
          have HLC := Lib.hid (HLC.out.kept hb)
          have HP := Lib.hid (HP.out.below hb)
          have HB := Lib.hid hB3
          rw [hnn] at hbx
          have HX := Lib.hid hbx
          have HLX := Lib.hid hlx
          clear hb hB3 hbx hlx
          clear HT HGG0 HGG1 HZ0 HZ1 HR HX8 HBW HSA HZA HZB ht0 ht1 ht2 ht3
          subst hnn
          obtain ⟨a0, a1, a2, a3, a4, a5, a6, a7⟩ := HA.out.cells
          go_wp2_with fail
          have hct := text_any2 t0 HF0.out (by have := HSZ.out.1; omega) _ _ _ HP.out HLA.out
          rw [HTA.out, HRA.out] at hct
          refine hct.mono ?_
          clear hct
          rintro e w11 ⟨rfl, hb⟩
          clear a0 a1 a2 a3 a4 a5 a6 a7
          have HA := Lib.hid (HA.out.kept hb HA.out.lt)
          have HC := Lib.hid (HC.out.kept hb HC.out.lt)
          have HX := Lib.hid (HX.out.kept hb HX.out.lt)
          have HLA := Lib.hid (HLA.out.kept hb)
          have HLC := Lib.hid (HLC.out.kept hb)
          have HLX := Lib.hid (HLX.out.kept hb)
          have HP := Lib.hid (HP.out.below hb)
          have HB := Lib.hid (HB.out.trans (hb.mono HB.out.size))
          clear hb
          obtain ⟨c0, c1, c2, c3, c4, c5, c6, c7⟩ := HC.out.cells
          go_wp2_with fail
          have hct := text_any2 t1 HF1.out (by have := HSZ.out.2; omega) _ _ _ HP.out HLC.out
          rw [HTC.out, HRC.out] at hct
          refine hct.mono ?_
          clear hct
          rintro e w12 ⟨rfl, hb⟩
          clear c0 c1 c2 c3 c4 c5 c6 c7
          have HA := Lib.hid (HA.out.kept hb HA.out.lt)
          have HC := Lib.hid (HC.out.kept hb HC.out.lt)
          have HX := Lib.hid (HX.out.kept hb HX.out.lt)
          have HLA := Lib.hid (HLA.out.kept hb)
          have HLC := Lib.hid (HLC.out.kept hb)
          have HLX := Lib.hid (HLX.out.kept hb)
          have HP := Lib.hid (HP.out.below hb)
          have HB := Lib.hid (HB.out.trans (hb.mono HB.out.size))
          clear hb
          obtain ⟨x0, x1, x2, x3, x4, x5, x6, x7⟩ := HX.out.cells
          go_wp2_with fail
          have hct := text_any2 (bothT t0 t1) HFB.out (by have := HSZ.out; have := size_both t0 t1; omega) _ _ _ HP.out HLX.out
          rw [HTX.out, HRX.out] at hct
          refine hct.mono ?_
          clear hct
          rintro e w13 ⟨rfl, hb⟩
          clear x0 x1 x2 x3 x4 x5 x6 x7
          have HA := Lib.hid (HA.out.kept hb HA.out.lt)
          have HC := Lib.hid (HC.out.kept hb HC.out.lt)
          have HX := Lib.hid (HX.out.kept hb HX.out.lt)
          have HLA := Lib.hid (HLA.out.kept hb)
          have HLC := Lib.hid (HLC.out.kept hb)
          have HLX := Lib.hid (HLX.out.kept hb)
          have HP := Lib.hid (HP.out.below hb)
          have HB := Lib.hid (HB.out.trans (hb.mono HB.out.size))
          clear hb
          go_wp2_with fail
          have HCA := Tqb.reg (w := w13) (f := 12) (args := #[t0.d.val ad0 t0.kids.length c0, .int .i64 262144]) (v := .int .i64 (sz0 : Int)) fun W hb => by
            have := count_int 262144 (by omega) t0 HF0.out (by have := HSZ.out.1; omega) _ _ W (HLA.out.kept hb)
            rw [cnt_of (by have := HSZ.out.1; omega), HS0.out] at this; exact this
          have HCC := Tqb.reg (w := w13) (f := 12) (args := #[t1.d.val ad1 t1.kids.length c1, .int .i64 262144]) (v := .int .i64 (sz1 : Int)) fun W hb => by
            have := count_int 262144 (by omega) t1 HF1.out (by have := HSZ.out.2; omega) _ _ W (HLC.out.kept hb)
            rw [cnt_of (by have := HSZ.out.2; omega), HS1.out] at this; exact this
          obtain ⟨a0, a1, a2, a3, a4, a5, a6, a7⟩ := HA.out.cells
          obtain ⟨c0, c1, c2, c3, c4, c5, c6, c7⟩ := HC.out.cells
          have ga0 := cell_regrown a0
          have gc0 := cell_regrown c0
          have ga1 := cell_regrown a1
          have gc1 := cell_regrown c1
          have ga2 := cell_regrown a2
          have gc2 := cell_regrown c2
          have ga3 := cell_regrown a3
          have gc3 := cell_regrown c3
          have ga4 := cell_regrown a4
          have gc4 := cell_regrown c4
          have ga5 := cell_regrown a5
          have gc5 := cell_regrown c5
          have ga6 := cell_regrown a6
          have gc6 := cell_regrown c6
          have ga7 := cell_regrown a7
          have gc7 := cell_regrown c7
          refine wp_region_quiet_below (by kernel_rfl) (by kernel_rfl) ?_
          repeat (go_big_quiet_step (first | with_reducible exact HCA.out _ _ | with_reducible exact HCC.out _ _ | fail))
          refine wpQuiet_nil ?_
          intro w14 hwz
          have hb := Drw.cls_below (w := w13) hwz
          clear hwz HCA HCC ga0 gc0 ga1 gc1 ga2 gc2 ga3 gc3 ga4 gc4 ga5 gc5 ga6 gc6 ga7 gc7
          clear a0 a1 a2 a3 a4 a5 a6 a7 c0 c1 c2 c3 c4 c5 c6 c7
          have HA := Lib.hid (HA.out.kept hb HA.out.lt)
          have HC := Lib.hid (HC.out.kept hb HC.out.lt)
          have HX := Lib.hid (HX.out.kept hb HX.out.lt)
          have HLA := Lib.hid (HLA.out.kept hb)
          have HLC := Lib.hid (HLC.out.kept hb)
          have HLX := Lib.hid (HLX.out.kept hb)
          have HP := Lib.hid (HP.out.below hb)
          have HB := Lib.hid (HB.out.trans (hb.mono HB.out.size))
          clear hb
          go_wp2_with fail
          have HDA := Tqb.reg (w := w14) (f := 13) (args := #[t0.d.val ad0 t0.kids.length c0, .int .i64 262144]) (v := .int .i64 (dp0 : Int)) fun W hb => by
            have := depth_int 262144 (by omega) t0 HF0.out (by have := HSZ.out.1; omega) _ _ W (HLA.out.kept hb)
            rw [dep_of (by have := HSZ.out.1; omega), HD0.out] at this; exact this
          have HDC := Tqb.reg (w := w14) (f := 13) (args := #[t1.d.val ad1 t1.kids.length c1, .int .i64 262144]) (v := .int .i64 (dp1 : Int)) fun W hb => by
            have := depth_int 262144 (by omega) t1 HF1.out (by have := HSZ.out.2; omega) _ _ W (HLC.out.kept hb)
            rw [dep_of (by have := HSZ.out.2; omega), HD1.out] at this; exact this
          obtain ⟨a0, a1, a2, a3, a4, a5, a6, a7⟩ := HA.out.cells
          obtain ⟨c0, c1, c2, c3, c4, c5, c6, c7⟩ := HC.out.cells
          have ga0 := cell_regrown a0
          have gc0 := cell_regrown c0
          have ga1 := cell_regrown a1
          have gc1 := cell_regrown c1
          have ga2 := cell_regrown a2
          have gc2 := cell_regrown c2
          have ga3 := cell_regrown a3
          have gc3 := cell_regrown c3
          have ga4 := cell_regrown a4
          have gc4 := cell_regrown c4
          have ga5 := cell_regrown a5
          have gc5 := cell_regrown c5
          have ga6 := cell_regrown a6
          have gc6 := cell_regrown c6
          have ga7 := cell_regrown a7
          have gc7 := cell_regrown c7
          refine wp_region_quiet_below (by kernel_rfl) (by kernel_rfl) ?_
          repeat (go_big_quiet_step (first | with_reducible exact HDA.out _ _ | with_reducible exact HDC.out _ _ | fail))
          refine wpQuiet_nil ?_
          intro w15 hwz
          have hb := Drw.cls_below (w := w14) hwz
          clear hwz HDA HDC ga0 gc0 ga1 gc1 ga2 gc2 ga3 gc3 ga4 gc4 ga5 gc5 ga6 gc6 ga7 gc7
          clear a0 a1 a2 a3 a4 a5 a6 a7 c0 c1 c2 c3 c4 c5 c6 c7
          have HA := Lib.hid (HA.out.kept hb HA.out.lt)
          have HC := Lib.hid (HC.out.kept hb HC.out.lt)
          have HX := Lib.hid (HX.out.kept hb HX.out.lt)
          have HLA := Lib.hid (HLA.out.kept hb)
          have HLC := Lib.hid (HLC.out.kept hb)
          have HLX := Lib.hid (HLX.out.kept hb)
          have HP := Lib.hid (HP.out.below hb)
          have HB := Lib.hid (HB.out.trans (hb.mono HB.out.size))
          clear hb
          obtain ⟨x0, x1, x2, x3, x4, x5, x6, x7⟩ := HX.out.cells
          go_wp2_with fail
          have hcc := count_int 262144 (by omega) (bothT t0 t1) HFB.out (by have := HSZ.out; have := size_both t0 t1; omega) _ _ _ HLX.out
          rw [cnt_of (by have := HSZ.out; have := size_both t0 t1; omega), HSB.out] at hcc
          refine hcc.mono ?_
          clear hcc
          rintro e w16 ⟨rfl, hb⟩
          clear x0 x1 x2 x3 x4 x5 x6 x7
          have HA := Lib.hid (HA.out.kept hb HA.out.lt)
          have HC := Lib.hid (HC.out.kept hb HC.out.lt)
          have HX := Lib.hid (HX.out.kept hb HX.out.lt)
          have HLA := Lib.hid (HLA.out.kept hb)
          have HLC := Lib.hid (HLC.out.kept hb)
          have HLX := Lib.hid (HLX.out.kept hb)
          have HP := Lib.hid (HP.out.below hb)
          have HB := Lib.hid (HB.out.trans (hb.mono HB.out.size))
          clear hb
          obtain ⟨x0, x1, x2, x3, x4, x5, x6, x7⟩ := HX.out.cells
          go_wp2_with fail
          have hcc := depth_int 262144 (by omega) (bothT t0 t1) HFB.out (by have := HSZ.out; have := size_both t0 t1; omega) _ _ _ HLX.out
          rw [dep_of (by have := HSZ.out; have := size_both t0 t1; omega), HDB.out] at hcc
          refine hcc.mono ?_
          clear hcc
          rintro e w17 ⟨rfl, hb⟩
          clear x0 x1 x2 x3 x4 x5 x6 x7
          have HA := Lib.hid (HA.out.kept hb HA.out.lt)
          have HC := Lib.hid (HC.out.kept hb HC.out.lt)
          have HX := Lib.hid (HX.out.kept hb HX.out.lt)
          have HLA := Lib.hid (HLA.out.kept hb)
          have HLC := Lib.hid (HLC.out.kept hb)
          have HLX := Lib.hid (HLX.out.kept hb)
          have HP := Lib.hid (HP.out.below hb)
          have HB := Lib.hid (HB.out.trans (hb.mono HB.out.size))
          clear hb
          go_wp2
          go_ret
          exact ⟨by first | rfl | simp, HB.out⟩
      · go_simp
        obtain ⟨hr, hx⟩ := HR.out.box
        obtain ⟨g8, hg8⟩ : ∃ g, g = wa1.heap.size := ⟨_, rfl⟩
        obtain ⟨wa7, hw⟩ : ∃ Z, Z = wa1.alloc (.cells zrow 25) := ⟨_, rfl⟩
        have hg8l : w3.heap.size ≤ g8 := by rw [hg8]; exact HR.out.base
        rw [← hw] at hr hx
        rw [← hg8] at hx
        rw [← hg8, ← hw]
        have HR := Lib.hid hr
        have HX8 := Lib.hid hx
        have HBW : Hid (Below w3.heap.size w3 wa7) := hr.below
        clear hr hx hw hg8
        refine hKK.out _ _ (HSA.out _ HBW.out) (fun hHeld => ?_)
        clear hKK K
        try dsimp only [Act.put, List.getElem_toArray, List.getElem_cons_zero, List.getElem_cons_succ]
        try simp only [List.setIfInBounds_toArray, List.set_cons_zero, List.set_cons_succ]
        refine wpAnyH_ready (rs := [3]) (by kernel_rfl) (by simp) ?_
        refine AllReadyH.cons rfl (fun K hKK => ?_) AllReadyH.nil
        refine step_app8 (by rfl) _ _ (by rfl) w3 _ _ wa7 HR.out (by rfl) t0.kids ad0 za c0 (by rfl) HZA.out (by simp; omega) ?_
        intro x8 n8 c8x wa8 hr hbx
        have HX8 := Lib.hid (hbx _ HX8.out)
        have HR := Lib.hid hr
        have HBW : Hid (Below w3.heap.size w3 wa8) := hr.below
        clear hr hbx
        refine hKK.out _ _ (HSA.out _ HBW.out) (fun hHeld => ?_)
        clear hKK K
        try dsimp only [Act.put, List.getElem_toArray, List.getElem_cons_zero, List.getElem_cons_succ]
        try simp only [List.setIfInBounds_toArray, List.set_cons_zero, List.set_cons_succ]
        refine wpAnyH_ready (rs := [6]) (by kernel_rfl) (by simp) ?_
        refine AllReadyH.cons rfl (fun K hKK => ?_) AllReadyH.nil
        refine step_app8 (by rfl) _ _ (by rfl) w3 _ _ wa8 HR.out (by rfl) t1.kids ad1 zb c1 (by rfl) HZB.out (by simp; omega) ?_
        intro x9 n9 c9x wa9 hr hbx
        have HX8 := Lib.hid (hbx _ HX8.out)
        have HR := Lib.hid hr
        have HBW : Hid (Below w3.heap.size w3 wa9) := hr.below
        clear hr hbx
        refine hKK.out _ _ (HSA.out _ HBW.out) (fun hHeld => ?_)
        clear hKK K
        try dsimp only [Act.put, List.getElem_toArray, List.getElem_cons_zero, List.getElem_cons_succ]
        try simp only [List.setIfInBounds_toArray, List.set_cons_zero, List.set_cons_succ]
        refine wpAnyH_take (i := 7) (v := ?_) rfl (by kernel_rfl) (by kernel_rfl) (by kernel_rfl) (fun _ _ _ h => h) (Or.inl ⟨by rfl, ?_⟩) hHeld ?_
        rotate_left
        · intro w hSw
          try dsimp only at hSw
          go_simp
          with_reducible rfl
        try dsimp only [Act.put, List.getElem_toArray, List.getElem_cons_zero, List.getElem_cons_succ]
        try simp only [List.setIfInBounds_toArray, List.set_cons_zero, List.set_cons_succ]
        refine wpAnyH_ready (rs := [9]) (by kernel_rfl) (by simp) ?_
        refine AllReadyH.cons rfl (fun K hKK => ?_) AllReadyH.nil
        obtain ⟨hc8, hf8⟩ := row_cells8 (d := ⟨0, ⟨#[]⟩, 0, ⟨#[]⟩, 0, 0, 0⟩) (a := none) (n := 0) (c := 0) HX8.out.blk
        have z0 := hc8 0 (by omega)
        have f0 := hf8 0
        have z1 := hc8 1 (by omega)
        have f1 := hf8 1
        have z2 := hc8 2 (by omega)
        have f2 := hf8 2
        have z3 := hc8 3 (by omega)
        have f3 := hf8 3
        have z4 := hc8 4 (by omega)
        have f4 := hf8 4
        have z5 := hc8 5 (by omega)
        have f5 := hf8 5
        have z6 := hc8 6 (by omega)
        have f6 := hf8 6
        have z7 := hc8 7 (by omega)
        have f7 := hf8 7
        simp only [List.getElem?_cons_succ, List.getElem?_cons_zero] at z0 z1 z2 z3 z4 z5 z6 z7
        clear hc8 hf8
        go_simp
        clear z0 z1 z2 z3 z4 z5 z6 z7 f0 f1 f2 f3 f4 f5 f6 f7
        have hfin := fin HR.out HX8.out hg8l HZA.out HZB.out
        unfold put8 at hfin
        obtain ⟨w7, hw⟩ : ∃ Z, Z = (((((((wa9.setCell ⟨g8, 0, none⟩ (.int .i64 1)).setCell ⟨g8, 1, none⟩ (.string ⟨#[]⟩)).setCell ⟨g8, 2, none⟩ (.int .i64 0)).setCell ⟨g8, 3, none⟩ (.string ⟨#[]⟩)).setCell ⟨g8, 4, none⟩ (.int .i64 0)).setCell ⟨g8, 5, none⟩ (.int .i64 0)).setCell ⟨g8, 6, none⟩ (.int .i64 0)).setCell ⟨g8, 7, none⟩ (.slice x9 n9 c9x) := ⟨_, rfl⟩
        rw [← hw]
        change _ ∧ Bx _ _ _ _ _ _ ∧ _ ∧ _ at hfin
        have hfin : n9 = (bothT t0 t1).kids.length ∧ Bx w7 g8 (bothT t0 t1).d x9 n9 c9x ∧ Lies w7 (fun _ => True) (bothT t0 t1) ((bothT t0 t1).d.val x9 n9 c9x) ∧ Below w3.heap.size w3 w7 := by rw [hw]; exact hfin
        obtain ⟨hnn, hbx, hlx, hb⟩ := hfin
        refine hKK.out _ _ (HSA.out _ hb) (fun hHeld => ?_)
        clear hKK K hHeld hw
        try dsimp only [Act.put, List.getElem_toArray, List.getElem_cons_zero, List.getElem_cons_succ]
        try simp only [List.setIfInBounds_toArray, List.set_cons_zero, List.set_cons_succ]
        refine wpAnyH_done (by kernel_rfl) ?_ _
        have hB3 := HB.out.trans (hb.mono HB.out.size)
        have HA := Lib.hid (HA.out.kept hb HA.out.lt)
        have HC := Lib.hid (HC.out.kept hb HC.out.lt)
        have HLA := Lib.hid (HLA.out.kept hb)
        have HLC := Lib.hid (HLC.out.kept hb)
        have HP := Lib.hid (HP.out.below hb)
        have HB := Lib.hid hB3
        rw [hnn] at hbx
        have HX := Lib.hid hbx
        have HLX := Lib.hid hlx
        clear hb hB3 hbx hlx
        clear HT HGG0 HGG1 HZ0 HZ1 HR HX8 HBW HSA HZA HZB ht0 ht1 ht2 ht3
        subst hnn
        obtain ⟨a0, a1, a2, a3, a4, a5, a6, a7⟩ := HA.out.cells
        go_wp2_with fail
        have hct := text_any2 t0 HF0.out (by have := HSZ.out.1; omega) _ _ _ HP.out HLA.out
        rw [HTA.out, HRA.out] at hct
        refine hct.mono ?_
        clear hct
        rintro e w11 ⟨rfl, hb⟩
        clear a0 a1 a2 a3 a4 a5 a6 a7
        have HA := Lib.hid (HA.out.kept hb HA.out.lt)
        have HC := Lib.hid (HC.out.kept hb HC.out.lt)
        have HX := Lib.hid (HX.out.kept hb HX.out.lt)
        have HLA := Lib.hid (HLA.out.kept hb)
        have HLC := Lib.hid (HLC.out.kept hb)
        have HLX := Lib.hid (HLX.out.kept hb)
        have HP := Lib.hid (HP.out.below hb)
        have HB := Lib.hid (HB.out.trans (hb.mono HB.out.size))
        clear hb
        obtain ⟨c0, c1, c2, c3, c4, c5, c6, c7⟩ := HC.out.cells
        go_wp2_with fail
        have hct := text_any2 t1 HF1.out (by have := HSZ.out.2; omega) _ _ _ HP.out HLC.out
        rw [HTC.out, HRC.out] at hct
        refine hct.mono ?_
        clear hct
        rintro e w12 ⟨rfl, hb⟩
        clear c0 c1 c2 c3 c4 c5 c6 c7
        have HA := Lib.hid (HA.out.kept hb HA.out.lt)
        have HC := Lib.hid (HC.out.kept hb HC.out.lt)
        have HX := Lib.hid (HX.out.kept hb HX.out.lt)
        have HLA := Lib.hid (HLA.out.kept hb)
        have HLC := Lib.hid (HLC.out.kept hb)
        have HLX := Lib.hid (HLX.out.kept hb)
        have HP := Lib.hid (HP.out.below hb)
        have HB := Lib.hid (HB.out.trans (hb.mono HB.out.size))
        clear hb
        obtain ⟨x0, x1, x2, x3, x4, x5, x6, x7⟩ := HX.out.cells
        go_wp2_with fail
        have hct := text_any2 (bothT t0 t1) HFB.out (by have := HSZ.out; have := size_both t0 t1; omega) _ _ _ HP.out HLX.out
        rw [HTX.out, HRX.out] at hct
        refine hct.mono ?_
        clear hct
        rintro e w13 ⟨rfl, hb⟩
        clear x0 x1 x2 x3 x4 x5 x6 x7
        have HA := Lib.hid (HA.out.kept hb HA.out.lt)
        have HC := Lib.hid (HC.out.kept hb HC.out.lt)
        have HX := Lib.hid (HX.out.kept hb HX.out.lt)
        have HLA := Lib.hid (HLA.out.kept hb)
        have HLC := Lib.hid (HLC.out.kept hb)
        have HLX := Lib.hid (HLX.out.kept hb)
        have HP := Lib.hid (HP.out.below hb)
        have HB := Lib.hid (HB.out.trans (hb.mono HB.out.size))
        clear hb
        go_wp2_with fail
        have HCA := Tqb.reg (w := w13) (f := 12) (args := #[t0.d.val ad0 t0.kids.length c0, .int .i64 262144]) (v := .int .i64 (sz0 : Int)) fun W hb => by
          have := count_int 262144 (by omega) t0 HF0.out (by have := HSZ.out.1; omega) _ _ W (HLA.out.kept hb)
          rw [cnt_of (by have := HSZ.out.1; omega), HS0.out] at this; exact this
        have HCC := Tqb.reg (w := w13) (f := 12) (args := #[t1.d.val ad1 t1.kids.length c1, .int .i64 262144]) (v := .int .i64 (sz1 : Int)) fun W hb => by
          have := count_int 262144 (by omega) t1 HF1.out (by have := HSZ.out.2; omega) _ _ W (HLC.out.kept hb)
          rw [cnt_of (by have := HSZ.out.2; omega), HS1.out] at this; exact this
        obtain ⟨a0, a1, a2, a3, a4, a5, a6, a7⟩ := HA.out.cells
        obtain ⟨c0, c1, c2, c3, c4, c5, c6, c7⟩ := HC.out.cells
        have ga0 := cell_regrown a0
        have gc0 := cell_regrown c0
        have ga1 := cell_regrown a1
        have gc1 := cell_regrown c1
        have ga2 := cell_regrown a2
        have gc2 := cell_regrown c2
        have ga3 := cell_regrown a3
        have gc3 := cell_regrown c3
        have ga4 := cell_regrown a4
        have gc4 := cell_regrown c4
        have ga5 := cell_regrown a5
        have gc5 := cell_regrown c5
        have ga6 := cell_regrown a6
        have gc6 := cell_regrown c6
        have ga7 := cell_regrown a7
        have gc7 := cell_regrown c7
        refine wp_region_quiet_below (by kernel_rfl) (by kernel_rfl) ?_
        repeat (go_big_quiet_step (first | with_reducible exact HCA.out _ _ | with_reducible exact HCC.out _ _ | fail))
        refine wpQuiet_nil ?_
        intro w14 hwz
        have hb := Drw.cls_below (w := w13) hwz
        clear hwz HCA HCC ga0 gc0 ga1 gc1 ga2 gc2 ga3 gc3 ga4 gc4 ga5 gc5 ga6 gc6 ga7 gc7
        clear a0 a1 a2 a3 a4 a5 a6 a7 c0 c1 c2 c3 c4 c5 c6 c7
        have HA := Lib.hid (HA.out.kept hb HA.out.lt)
        have HC := Lib.hid (HC.out.kept hb HC.out.lt)
        have HX := Lib.hid (HX.out.kept hb HX.out.lt)
        have HLA := Lib.hid (HLA.out.kept hb)
        have HLC := Lib.hid (HLC.out.kept hb)
        have HLX := Lib.hid (HLX.out.kept hb)
        have HP := Lib.hid (HP.out.below hb)
        have HB := Lib.hid (HB.out.trans (hb.mono HB.out.size))
        clear hb
        go_wp2_with fail
        have HDA := Tqb.reg (w := w14) (f := 13) (args := #[t0.d.val ad0 t0.kids.length c0, .int .i64 262144]) (v := .int .i64 (dp0 : Int)) fun W hb => by
          have := depth_int 262144 (by omega) t0 HF0.out (by have := HSZ.out.1; omega) _ _ W (HLA.out.kept hb)
          rw [dep_of (by have := HSZ.out.1; omega), HD0.out] at this; exact this
        have HDC := Tqb.reg (w := w14) (f := 13) (args := #[t1.d.val ad1 t1.kids.length c1, .int .i64 262144]) (v := .int .i64 (dp1 : Int)) fun W hb => by
          have := depth_int 262144 (by omega) t1 HF1.out (by have := HSZ.out.2; omega) _ _ W (HLC.out.kept hb)
          rw [dep_of (by have := HSZ.out.2; omega), HD1.out] at this; exact this
        obtain ⟨a0, a1, a2, a3, a4, a5, a6, a7⟩ := HA.out.cells
        obtain ⟨c0, c1, c2, c3, c4, c5, c6, c7⟩ := HC.out.cells
        have ga0 := cell_regrown a0
        have gc0 := cell_regrown c0
        have ga1 := cell_regrown a1
        have gc1 := cell_regrown c1
        have ga2 := cell_regrown a2
        have gc2 := cell_regrown c2
        have ga3 := cell_regrown a3
        have gc3 := cell_regrown c3
        have ga4 := cell_regrown a4
        have gc4 := cell_regrown c4
        have ga5 := cell_regrown a5
        have gc5 := cell_regrown c5
        have ga6 := cell_regrown a6
        have gc6 := cell_regrown c6
        have ga7 := cell_regrown a7
        have gc7 := cell_regrown c7
        refine wp_region_quiet_below (by kernel_rfl) (by kernel_rfl) ?_
        repeat (go_big_quiet_step (first | with_reducible exact HDA.out _ _ | with_reducible exact HDC.out _ _ | fail))
        refine wpQuiet_nil ?_
        intro w15 hwz
        have hb := Drw.cls_below (w := w14) hwz
        clear hwz HDA HDC ga0 gc0 ga1 gc1 ga2 gc2 ga3 gc3 ga4 gc4 ga5 gc5 ga6 gc6 ga7 gc7
        clear a0 a1 a2 a3 a4 a5 a6 a7 c0 c1 c2 c3 c4 c5 c6 c7
        have HA := Lib.hid (HA.out.kept hb HA.out.lt)
        have HC := Lib.hid (HC.out.kept hb HC.out.lt)
        have HX := Lib.hid (HX.out.kept hb HX.out.lt)
        have HLA := Lib.hid (HLA.out.kept hb)
        have HLC := Lib.hid (HLC.out.kept hb)
        have HLX := Lib.hid (HLX.out.kept hb)
        have HP := Lib.hid (HP.out.below hb)
        have HB := Lib.hid (HB.out.trans (hb.mono HB.out.size))
        clear hb
        obtain ⟨x0, x1, x2, x3, x4, x5, x6, x7⟩ := HX.out.cells
        go_wp2_with fail
        have hcc := count_int 262144 (by omega) (bothT t0 t1) HFB.out (by have := HSZ.out; have := size_both t0 t1; omega) _ _ _ HLX.out
        rw [cnt_of (by have := HSZ.out; have := size_both t0 t1; omega), HSB.out] at hcc
        refine hcc.mono ?_
        clear hcc
        rintro e w16 ⟨rfl, hb⟩
        clear x0 x1 x2 x3 x4 x5 x6 x7
        have HA := Lib.hid (HA.out.kept hb HA.out.lt)
        have HC := Lib.hid (HC.out.kept hb HC.out.lt)
        have HX := Lib.hid (HX.out.kept hb HX.out.lt)
        have HLA := Lib.hid (HLA.out.kept hb)
        have HLC := Lib.hid (HLC.out.kept hb)
        have HLX := Lib.hid (HLX.out.kept hb)
        have HP := Lib.hid (HP.out.below hb)
        have HB := Lib.hid (HB.out.trans (hb.mono HB.out.size))
        clear hb
        obtain ⟨x0, x1, x2, x3, x4, x5, x6, x7⟩ := HX.out.cells
        go_wp2_with fail
        have hcc := depth_int 262144 (by omega) (bothT t0 t1) HFB.out (by have := HSZ.out; have := size_both t0 t1; omega) _ _ _ HLX.out
        rw [dep_of (by have := HSZ.out; have := size_both t0 t1; omega), HDB.out] at hcc
        refine hcc.mono ?_
        clear hcc
        rintro e w17 ⟨rfl, hb⟩
        clear x0 x1 x2 x3 x4 x5 x6 x7
        have HA := Lib.hid (HA.out.kept hb HA.out.lt)
        have HC := Lib.hid (HC.out.kept hb HC.out.lt)
        have HX := Lib.hid (HX.out.kept hb HX.out.lt)
        have HLA := Lib.hid (HLA.out.kept hb)
        have HLC := Lib.hid (HLC.out.kept hb)
        have HLX := Lib.hid (HLX.out.kept hb)
        have HP := Lib.hid (HP.out.below hb)
        have HB := Lib.hid (HB.out.trans (hb.mono HB.out.size))
        clear hb
        go_wp2
        go_ret
        exact ⟨by first | rfl | simp, HB.out⟩
    · go_simp
      have HBD := Lib.hid HBW.out
      have hb2 := HBW.out.alloc hg3 (.cells zrow 25)
      obtain ⟨g8, hg8⟩ : ∃ g, g = wd.heap.size := ⟨_, rfl⟩
      obtain ⟨wa10, hw⟩ : ∃ Z, Z = wd.alloc (.cells zrow 25) := ⟨_, rfl⟩
      have HW8 := Lib.hid (And.intro hw hg8)
      have hg8l : w3.heap.size ≤ g8 := by rw [hg8]; exact hg3
      rw [← hw] at hb2
      rw [← hg8, ← hw]
      have HBW := Lib.hid hb2
      clear hb2 hw hg8
      refine hKK.out _ _ (HSA.out _ HBW.out) (fun hHeld => ?_)
      clear hKK K
      try dsimp only [Act.put, List.getElem_toArray, List.getElem_cons_zero, List.getElem_cons_succ]
      try simp only [List.setIfInBounds_toArray, List.set_cons_zero, List.set_cons_succ]
      refine wpAnyH_ready (rs := [0]) (by kernel_rfl) (by simp) ?_
      refine AllReadyH.cons rfl (fun K hKK => ?_) AllReadyH.nil
      go_simp
      obtain ⟨hr, hx⟩ := BoxS.start HBD.out
      rw [← HW8.out.1, ← HW8.out.2] at hr hx
      obtain ⟨wa11, hw⟩ : ∃ Z, Z = wa10.alloc (.cells #[] 25) := ⟨_, rfl⟩
      have hz8 : wa10.heap.size = g8 + 1 := by rw [HW8.out.1, HW8.out.2]; simp
      rw [hz8]
      obtain ⟨gs, hgs⟩ : ∃ g, g = g8 + 1 := ⟨_, rfl⟩
      rw [← hw, ← hgs] at hr hx
      rw [← hw, ← hgs]
      have HR := Lib.hid hr
      have HX8 := Lib.hid hx
      have HBW : Hid (Below w3.heap.size w3 wa11) := hr.below
      clear hr hx hgs hw hz8
      refine hKK.out _ _ (HSA.out _ HBW.out) (fun hHeld => ?_)
      clear hKK K
      try dsimp only [Act.put, List.getElem_toArray, List.getElem_cons_zero, List.getElem_cons_succ]
      try simp only [List.setIfInBounds_toArray, List.set_cons_zero, List.set_cons_succ]
      refine wpAnyH_ready (rs := [3]) (by kernel_rfl) (by simp) ?_
      refine AllReadyH.cons rfl (fun K hKK => ?_) AllReadyH.nil
      refine step_app8 (by rfl) _ _ (by rfl) w3 _ _ wa11 HR.out (by rfl) t0.kids ad0 za c0 (by rfl) HZA.out (by simp; omega) ?_
      intro x12 n12 c12x wa12 hr hbx
      have HX8 := Lib.hid (hbx _ HX8.out)
      have HR := Lib.hid hr
      have HBW : Hid (Below w3.heap.size w3 wa12) := hr.below
      clear hr hbx
      refine hKK.out _ _ (HSA.out _ HBW.out) (fun hHeld => ?_)
      clear hKK K
      try dsimp only [Act.put, List.getElem_toArray, List.getElem_cons_zero, List.getElem_cons_succ]
      try simp only [List.setIfInBounds_toArray, List.set_cons_zero, List.set_cons_succ]
      refine wpAnyH_ready (rs := [6]) (by kernel_rfl) (by simp) ?_
      refine AllReadyH.cons rfl (fun K hKK => ?_) AllReadyH.nil
      refine step_app8 (by rfl) _ _ (by rfl) w3 _ _ wa12 HR.out (by rfl) t1.kids ad1 zb c1 (by rfl) HZB.out (by simp; omega) ?_
      intro x13 n13 c13x wa13 hr hbx
      have HX8 := Lib.hid (hbx _ HX8.out)
      have HR := Lib.hid hr
      have HBW : Hid (Below w3.heap.size w3 wa13) := hr.below
      clear hr hbx
      refine hKK.out _ _ (HSA.out _ HBW.out) (fun hHeld => ?_)
      clear hKK K
      try dsimp only [Act.put, List.getElem_toArray, List.getElem_cons_zero, List.getElem_cons_succ]
      try simp only [List.setIfInBounds_toArray, List.set_cons_zero, List.set_cons_succ]
      refine wpAnyH_take (i := 7) (v := ?_) rfl (by kernel_rfl) (by kernel_rfl) (by kernel_rfl) (fun _ _ _ h => h) (Or.inl ⟨by rfl, ?_⟩) hHeld ?_
      rotate_left
      · intro w hSw
        try dsimp only at hSw
        go_simp
        with_reducible rfl
      try dsimp only [Act.put, List.getElem_toArray, List.getElem_cons_zero, List.getElem_cons_succ]
      try simp only [List.setIfInBounds_toArray, List.set_cons_zero, List.set_cons_succ]
      refine wpAnyH_ready (rs := [9]) (by kernel_rfl) (by simp) ?_
      refine AllReadyH.cons rfl (fun K hKK => ?_) AllReadyH.nil
      obtain ⟨hc8, hf8⟩ := row_cells8 (d := ⟨0, ⟨#[]⟩, 0, ⟨#[]⟩, 0, 0, 0⟩) (a := none) (n := 0) (c := 0) HX8.out.blk
      have z0 := hc8 0 (by omega)
      have f0 := hf8 0
      have z1 := hc8 1 (by omega)
      have f1 := hf8 1
      have z2 := hc8 2 (by omega)
      have f2 := hf8 2
      have z3 := hc8 3 (by omega)
      have f3 := hf8 3
      have z4 := hc8 4 (by omega)
      have f4 := hf8 4
      have z5 := hc8 5 (by omega)
      have f5 := hf8 5
      have z6 := hc8 6 (by omega)
      have f6 := hf8 6
      have z7 := hc8 7 (by omega)
      have f7 := hf8 7
      simp only [List.getElem?_cons_succ, List.getElem?_cons_zero] at z0 z1 z2 z3 z4 z5 z6 z7
      clear hc8 hf8
      go_simp
      clear z0 z1 z2 z3 z4 z5 z6 z7 f0 f1 f2 f3 f4 f5 f6 f7
      have hfin := fin HR.out HX8.out hg8l HZA.out HZB.out
      unfold put8 at hfin
      obtain ⟨w7, hw⟩ : ∃ Z, Z = (((((((wa13.setCell ⟨g8, 0, none⟩ (.int .i64 1)).setCell ⟨g8, 1, none⟩ (.string ⟨#[]⟩)).setCell ⟨g8, 2, none⟩ (.int .i64 0)).setCell ⟨g8, 3, none⟩ (.string ⟨#[]⟩)).setCell ⟨g8, 4, none⟩ (.int .i64 0)).setCell ⟨g8, 5, none⟩ (.int .i64 0)).setCell ⟨g8, 6, none⟩ (.int .i64 0)).setCell ⟨g8, 7, none⟩ (.slice x13 n13 c13x) := ⟨_, rfl⟩
      rw [← hw]
      change _ ∧ Bx _ _ _ _ _ _ ∧ _ ∧ _ at hfin
      have hfin : n13 = (bothT t0 t1).kids.length ∧ Bx w7 g8 (bothT t0 t1).d x13 n13 c13x ∧ Lies w7 (fun _ => True) (bothT t0 t1) ((bothT t0 t1).d.val x13 n13 c13x) ∧ Below w3.heap.size w3 w7 := by rw [hw]; exact hfin
      obtain ⟨hnn, hbx, hlx, hb⟩ := hfin
      refine hKK.out _ _ (HSA.out _ hb) (fun hHeld => ?_)
      clear hKK K hHeld hw
      try dsimp only [Act.put, List.getElem_toArray, List.getElem_cons_zero, List.getElem_cons_succ]
      try simp only [List.setIfInBounds_toArray, List.set_cons_zero, List.set_cons_succ]
      refine wpAnyH_done (by kernel_rfl) ?_ _
      have hB3 := HB.out.trans (hb.mono HB.out.size)
      have HA := Lib.hid (HA.out.kept hb HA.out.lt)
      have HC := Lib.hid (HC.out.kept hb HC.out.lt)
      have HLA := Lib.hid (HLA.out.kept hb)
      have HLC := Lib.hid (HLC.out.kept hb)
      have HP := Lib.hid (HP.out.below hb)
      have HB := Lib.hid hB3
      rw [hnn] at hbx
      have HX := Lib.hid hbx
      have HLX := Lib.hid hlx
      clear hb hB3 hbx hlx
      clear HT HGG0 HGG1 HZ0 HZ1 HR HX8 HBW HSA HZA HZB ht0 ht1 ht2 ht3
      subst hnn
      obtain ⟨a0, a1, a2, a3, a4, a5, a6, a7⟩ := HA.out.cells
      go_wp2_with fail
      have hct := text_any2 t0 HF0.out (by have := HSZ.out.1; omega) _ _ _ HP.out HLA.out
      rw [HTA.out, HRA.out] at hct
      refine hct.mono ?_
      clear hct
      rintro e w11 ⟨rfl, hb⟩
      clear a0 a1 a2 a3 a4 a5 a6 a7
      have HA := Lib.hid (HA.out.kept hb HA.out.lt)
      have HC := Lib.hid (HC.out.kept hb HC.out.lt)
      have HX := Lib.hid (HX.out.kept hb HX.out.lt)
      have HLA := Lib.hid (HLA.out.kept hb)
      have HLC := Lib.hid (HLC.out.kept hb)
      have HLX := Lib.hid (HLX.out.kept hb)
      have HP := Lib.hid (HP.out.below hb)
      have HB := Lib.hid (HB.out.trans (hb.mono HB.out.size))
      clear hb
      obtain ⟨c0, c1, c2, c3, c4, c5, c6, c7⟩ := HC.out.cells
      go_wp2_with fail
      have hct := text_any2 t1 HF1.out (by have := HSZ.out.2; omega) _ _ _ HP.out HLC.out
      rw [HTC.out, HRC.out] at hct
      refine hct.mono ?_
      clear hct
      rintro e w12 ⟨rfl, hb⟩
      clear c0 c1 c2 c3 c4 c5 c6 c7
      have HA := Lib.hid (HA.out.kept hb HA.out.lt)
      have HC := Lib.hid (HC.out.kept hb HC.out.lt)
      have HX := Lib.hid (HX.out.kept hb HX.out.lt)
      have HLA := Lib.hid (HLA.out.kept hb)
      have HLC := Lib.hid (HLC.out.kept hb)
      have HLX := Lib.hid (HLX.out.kept hb)
      have HP := Lib.hid (HP.out.below hb)
      have HB := Lib.hid (HB.out.trans (hb.mono HB.out.size))
      clear hb
      obtain ⟨x0, x1, x2, x3, x4, x5, x6, x7⟩ := HX.out.cells
      go_wp2_with fail
      have hct := text_any2 (bothT t0 t1) HFB.out (by have := HSZ.out; have := size_both t0 t1; omega) _ _ _ HP.out HLX.out
      rw [HTX.out, HRX.out] at hct
      refine hct.mono ?_
      clear hct
      rintro e w13 ⟨rfl, hb⟩
      clear x0 x1 x2 x3 x4 x5 x6 x7
      have HA := Lib.hid (HA.out.kept hb HA.out.lt)
      have HC := Lib.hid (HC.out.kept hb HC.out.lt)
      have HX := Lib.hid (HX.out.kept hb HX.out.lt)
      have HLA := Lib.hid (HLA.out.kept hb)
      have HLC := Lib.hid (HLC.out.kept hb)
      have HLX := Lib.hid (HLX.out.kept hb)
      have HP := Lib.hid (HP.out.below hb)
      have HB := Lib.hid (HB.out.trans (hb.mono HB.out.size))
      clear hb
      go_wp2_with fail
      have HCA := Tqb.reg (w := w13) (f := 12) (args := #[t0.d.val ad0 t0.kids.length c0, .int .i64 262144]) (v := .int .i64 (sz0 : Int)) fun W hb => by
        have := count_int 262144 (by omega) t0 HF0.out (by have := HSZ.out.1; omega) _ _ W (HLA.out.kept hb)
        rw [cnt_of (by have := HSZ.out.1; omega), HS0.out] at this; exact this
      have HCC := Tqb.reg (w := w13) (f := 12) (args := #[t1.d.val ad1 t1.kids.length c1, .int .i64 262144]) (v := .int .i64 (sz1 : Int)) fun W hb => by
        have := count_int 262144 (by omega) t1 HF1.out (by have := HSZ.out.2; omega) _ _ W (HLC.out.kept hb)
        rw [cnt_of (by have := HSZ.out.2; omega), HS1.out] at this; exact this
      obtain ⟨a0, a1, a2, a3, a4, a5, a6, a7⟩ := HA.out.cells
      obtain ⟨c0, c1, c2, c3, c4, c5, c6, c7⟩ := HC.out.cells
      have ga0 := cell_regrown a0
      have gc0 := cell_regrown c0
      have ga1 := cell_regrown a1
      have gc1 := cell_regrown c1
      have ga2 := cell_regrown a2
      have gc2 := cell_regrown c2
      have ga3 := cell_regrown a3
      have gc3 := cell_regrown c3
      have ga4 := cell_regrown a4
      have gc4 := cell_regrown c4
      have ga5 := cell_regrown a5
      have gc5 := cell_regrown c5
      have ga6 := cell_regrown a6
      have gc6 := cell_regrown c6
      have ga7 := cell_regrown a7
      have gc7 := cell_regrown c7
      refine wp_region_quiet_below (by kernel_rfl) (by kernel_rfl) ?_
      repeat (go_big_quiet_step (first | with_reducible exact HCA.out _ _ | with_reducible exact HCC.out _ _ | fail))
      refine wpQuiet_nil ?_
      intro w14 hwz
      have hb := Drw.cls_below (w := w13) hwz
      clear hwz HCA HCC ga0 gc0 ga1 gc1 ga2 gc2 ga3 gc3 ga4 gc4 ga5 gc5 ga6 gc6 ga7 gc7
      clear a0 a1 a2 a3 a4 a5 a6 a7 c0 c1 c2 c3 c4 c5 c6 c7
      have HA := Lib.hid (HA.out.kept hb HA.out.lt)
      have HC := Lib.hid (HC.out.kept hb HC.out.lt)
      have HX := Lib.hid (HX.out.kept hb HX.out.lt)
      have HLA := Lib.hid (HLA.out.kept hb)
      have HLC := Lib.hid (HLC.out.kept hb)
      have HLX := Lib.hid (HLX.out.kept hb)
      have HP := Lib.hid (HP.out.below hb)
      have HB := Lib.hid (HB.out.trans (hb.mono HB.out.size))
      clear hb
      go_wp2_with fail
      have HDA := Tqb.reg (w := w14) (f := 13) (args := #[t0.d.val ad0 t0.kids.length c0, .int .i64 262144]) (v := .int .i64 (dp0 : Int)) fun W hb => by
        have := depth_int 262144 (by omega) t0 HF0.out (by have := HSZ.out.1; omega) _ _ W (HLA.out.kept hb)
        rw [dep_of (by have := HSZ.out.1; omega), HD0.out] at this; exact this
      have HDC := Tqb.reg (w := w14) (f := 13) (args := #[t1.d.val ad1 t1.kids.length c1, .int .i64 262144]) (v := .int .i64 (dp1 : Int)) fun W hb => by
        have := depth_int 262144 (by omega) t1 HF1.out (by have := HSZ.out.2; omega) _ _ W (HLC.out.kept hb)
        rw [dep_of (by have := HSZ.out.2; omega), HD1.out] at this; exact this
      obtain ⟨a0, a1, a2, a3, a4, a5, a6, a7⟩ := HA.out.cells
      obtain ⟨c0, c1, c2, c3, c4, c5, c6, c7⟩ := HC.out.cells
      have ga0 := cell_regrown a0
      have gc0 := cell_regrown c0
      have ga1 := cell_regrown a1
      have gc1 := cell_regrown c1
      have ga2 := cell_regrown a2
      have gc2 := cell_regrown c2
      have ga3 := cell_regrown a3
      have gc3 := cell_regrown c3
      have ga4 := cell_regrown a4
      have gc4 := cell_regrown c4
      have ga5 := cell_regrown a5
      have gc5 := cell_regrown c5
      have ga6 := cell_regrown a6
      have gc6 := cell_regrown c6
      have ga7 := cell_regrown a7
      have gc7 := cell_regrown c7
      refine wp_region_quiet_below (by kernel_rfl) (by kernel_rfl) ?_
      repeat (go_big_quiet_step (first | with_reducible exact HDA.out _ _ | with_reducible exact HDC.out _ _ | fail))
      refine wpQuiet_nil ?_
      intro w15 hwz
      have hb := Drw.cls_below (w := w14) hwz
      clear hwz HDA HDC ga0 gc0 ga1 gc1 ga2 gc2 ga3 gc3 ga4 gc4 ga5 gc5 ga6 gc6 ga7 gc7
      clear a0 a1 a2 a3 a4 a5 a6 a7 c0 c1 c2 c3 c4 c5 c6 c7
      have HA := Lib.hid (HA.out.kept hb HA.out.lt)
      have HC := Lib.hid (HC.out.kept hb HC.out.lt)
      have HX := Lib.hid (HX.out.kept hb HX.out.lt)
      have HLA := Lib.hid (HLA.out.kept hb)
      have HLC := Lib.hid (HLC.out.kept hb)
      have HLX := Lib.hid (HLX.out.kept hb)
      have HP := Lib.hid (HP.out.below hb)
      have HB := Lib.hid (HB.out.trans (hb.mono HB.out.size))
      clear hb
      obtain ⟨x0, x1, x2, x3, x4, x5, x6, x7⟩ := HX.out.cells
      go_wp2_with fail
      have hcc := count_int 262144 (by omega) (bothT t0 t1) HFB.out (by have := HSZ.out; have := size_both t0 t1; omega) _ _ _ HLX.out
      rw [cnt_of (by have := HSZ.out; have := size_both t0 t1; omega), HSB.out] at hcc
      refine hcc.mono ?_
      clear hcc
      rintro e w16 ⟨rfl, hb⟩
      clear x0 x1 x2 x3 x4 x5 x6 x7
      have HA := Lib.hid (HA.out.kept hb HA.out.lt)
      have HC := Lib.hid (HC.out.kept hb HC.out.lt)
      have HX := Lib.hid (HX.out.kept hb HX.out.lt)
      have HLA := Lib.hid (HLA.out.kept hb)
      have HLC := Lib.hid (HLC.out.kept hb)
      have HLX := Lib.hid (HLX.out.kept hb)
      have HP := Lib.hid (HP.out.below hb)
      have HB := Lib.hid (HB.out.trans (hb.mono HB.out.size))
      clear hb
      obtain ⟨x0, x1, x2, x3, x4, x5, x6, x7⟩ := HX.out.cells
      go_wp2_with fail
      have hcc := depth_int 262144 (by omega) (bothT t0 t1) HFB.out (by have := HSZ.out; have := size_both t0 t1; omega) _ _ _ HLX.out
      rw [dep_of (by have := HSZ.out; have := size_both t0 t1; omega), HDB.out] at hcc
      refine hcc.mono ?_
      clear hcc
      rintro e w17 ⟨rfl, hb⟩
      clear x0 x1 x2 x3 x4 x5 x6 x7
      have HA := Lib.hid (HA.out.kept hb HA.out.lt)
      have HC := Lib.hid (HC.out.kept hb HC.out.lt)
      have HX := Lib.hid (HX.out.kept hb HX.out.lt)
      have HLA := Lib.hid (HLA.out.kept hb)
      have HLC := Lib.hid (HLC.out.kept hb)
      have HLX := Lib.hid (HLX.out.kept hb)
      have HP := Lib.hid (HP.out.below hb)
      have HB := Lib.hid (HB.out.trans (hb.mono HB.out.size))
      clear hb
      go_wp2
      go_ret
      exact ⟨by first | rfl | simp, HB.out⟩
end Go.Proofs.YtgodeffkboihlaaGreatDoor.Tpz
