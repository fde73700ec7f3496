/- tree.Bare and the reference's Bare. -/
import Derived.Test.YtgodeffkboihlaaGreatDoorM1
import Derived.Test.YtgodeffkboihlaaGreatDoorTrh
import Derived.Test.YtgodeffkboihlaaGreatDoorStk
import Derived.Test.YtgodeffkboihlaaGreatDoorTst
set_option linter.unusedVariables false
namespace Go.Proofs.YtgodeffkboihlaaGreatDoor.Tba
open Go.RowKit Tra Trb Trc Trd Trf Trg Tcn Trh Rwo Tst

theorem infoNd : (Tryz.prog.info? 25).map (fun i => (i.zero, i.size, i.bytes)) = some (some (.agg #[.int .i64 0, .string .empty, .int .i64 0, .string .empty, .int .i64 0, .int .i64 0, .int .i64 0, .slice none 0 0]), 8, 96) := by kernel_rfl
theorem enters_bare : Enters Tryz.prog 20 := enters_of Tryz.func20 (by kernel_rfl) rfl
theorem map_take_succ {l : List Tr} {j : Nat} (f : Tr → Tr) (hj : j < l.length) : (l.take (j + 1)).map f = (l.take j).map f ++ [f (l.getD j tr0)] := by
  rw [take_succ hj, List.map_append]; rfl
theorem bare_mk' {d d2 : Nd} {ks : List Tr} (h : bareNd d = d2) : bare (.mk d ks) = .mk d2 (ks.map bare) := by rw [bare_mk, h]
theorem size_bare : ∀ t : Tr, size (bare t) = size t := by
  refine tree_ind fun d ks ih => ?_
  rw [bare_mk]
  simp only [size]
  suffices ∀ l : List Tr, (∀ j, j < l.length → size (bare (l.getD j tr0)) = size (l.getD j tr0)) → sizes (l.map bare) = sizes l by rw [this ks ih]
  intro l
  induction l with
  | nil => intro _; rfl
  | cons t l il =>
    intro h
    have h0 := h 0 (by simp)
    have h1 := il fun j hj => by simpa using h (j + 1) (by simpa using hj)
    simp only [List.getD_cons_zero] at h0
    simp only [List.map_cons, sizes, h0, h1]
/-- A made tree's value is a node's. -/
theorem sep_val {T : TypeId} {m : Bool} {w : World} {S : Nat → Prop} {t : Tr} {u : Value} (h : Sep T m w S t u) : ∃ x : Nv, u = x.val ∧ x.d = t.d := by
  cases h with
  | mk S R d ks a c n xs => exact ⟨⟨d, a, ks.length, c⟩, rfl, rfl⟩
set_option maxHeartbeats 4000000 in
set_option maxRecDepth 100000 in
theorem bare_any : ∀ (t : Tr) (v : Value) (S : Nat → Prop) (w : World), Lies w S t v → Fit t →
    Calls Tryz.prog 20 #[v] w fun e w' => ∃ u, e = .returned u ∧ Below w.heap.size w w' ∧ Sep 25 false w' (fun b => w.heap.size ≤ b ∧ b < w'.heap.size) (bare t) u := by
  refine tree_ind fun d ks ih => ?_
  intro v S w hv hF
  obtain ⟨a, c, rfl, hK⟩ := kids_lie hv
  have HF := Lib.hid hF
  have hlen := fit_len hF
  have HK := Lib.hid hK
  have HI := Lib.hid ih
  clear ih hv hF hK
  have hm : ∀ W, Calls Tryz.prog 33 #[.int .i64 d.k] W fun e w' => e = .returned (.bool (marks d.k)) ∧ W = w' := marks_any d.k
  have HM := Lib.hid hm
  clear hm
  obtain ⟨d2, hd2⟩ : ∃ d2, bareNd d = d2 := ⟨_, rfl⟩
  have HD := Lib.hid hd2
  have hst := St.start w false d a ks.length c d2
  have e2 : d2.row none 0 0 = [.int .i64 d.k, .string d.text, .int .i64 d.n, .string (if marks d.k then .empty else d.ty), .int .i64 0, .int .i64 0, .int .i64 0, .slice none 0 0] := by rw [← hd2]; rfl
  rw [e2] at hst
  clear e2 hd2
  obtain ⟨bm, hbm⟩ : ∃ bm, marks d.k = bm := ⟨_, rfl⟩
  rw [hbm] at HM hst
  have HST : Hid _ := Lib.hid hst
  clear hbm hst
  cases bm
  all_goals
    go_enter Tryz.func20, Tryz.ntmps20
    go_wp2_with fail
    refine (HM.out _).mono ?_
    rintro e w1 ⟨rfl, rfl⟩
    go_wp2_with fail
    go_loopw [22] (fun i wr => ∃ (k : Nat) (a' : Option Addr) (n' c' : Nat) (xs : List Nv) (R : Nat → Nat → Prop), k ≤ ks.length ∧ i = .int .i64 k ∧ Hid (St w false d a ks.length c d2 a' n' c' ((ks.take k).map bare) xs R wr)) (fun i _ => ks.length - (intOf i).toNat)
    case atStart => exact ⟨0, none, 0, 0, [], _, Nat.zero_le _, rfl, HST.out⟩
    case round =>
      obtain ⟨k, a', n', c', xs, R, hk, rfl, hs⟩ := hrel
      have hW := hs.out.below
      have hsz := hs.out.size
      by_cases hlt : k < ks.length
      · obtain ⟨b, o, rfl, hA⟩ := (HK.out.kept hW).get hlt
        have hb := hA.2.1
        have IH := HI.out k hlt
        have hMT := map_take_succ bare hlt
        have hFk := fit_kid HF.out hlt
        obtain ⟨t, ht⟩ : ∃ t, ks.getD k tr0 = t := ⟨_, rfl⟩
        rw [ht] at hA IH hMT hFk
        clear ht
        obtain ⟨x, cx, hx, c0, c1, c2, c3, c4, c5, c6, c7⟩ := hA.cells
        clear hA
        have HX := Lib.hid hx
        have HMT := Lib.hid hMT
        have HFK := Lib.hid hFk
        have HII := Lib.hid IH
        have HBX := Lib.hid ((Below.refl wr.heap.size wr).alloc (Nat.le_refl _) (.cells (t.d.row x t.kids.length cx).toArray 25))
        clear hx hMT hFk IH hW
        have hxl : xs.length ≤ 1048576 := by
          have := hs.out.kids.len
          simp at this; omega
        have hsz2 : w.heap.size + 1 + 1 < wr.heap.size := by omega
        have h7 := (row_cells8 hs.out.out).1 7 (by omega)
        have f7 := (row_cells8 hs.out.out).2 7
        simp only [List.getElem?_cons_succ, List.getElem?_cons_zero] at h7
        go_wp2_with fail
        go_region_law ((first
          | (refine Stk.step_call (by rfl) 20 enters_bare _ _ (by rfl) [t.d.val x t.kids.length cx] (by rfl) ?_
             refine (HII.out _ _ _ ((HX.out.kept HBX.out).kept (Below.refl _ _).drew) HFK.out).mono ?_
             rintro e w1 ⟨u, rfl, hb1, hsep⟩
             obtain ⟨y, rfl, -⟩ := sep_val hsep
             have hb2 := HBX.out.trans (((Below.refl _ _).drew.trans hb1).mono HBX.out.size)
             have hs1 := hs.out.kept hb2
             have g7 := (row_cells8 hs1.out).1 7 (by omega)
             simp only [List.getElem?_cons_succ, List.getElem?_cons_zero] at g7
             have hsz3 : w.heap.size + 1 + 1 < w1.heap.size := by have := hs1.size; omega
             have HS1 := Lib.hid hs1
             have HSEP := Lib.hid hsep
             clear hb1 hb2 hs1 hsep
             refine ⟨_, rfl, ?_⟩)
          | (refine Rwo.step_append (E := nE) (by rfl) _ _ _ (by rfl) 25 _ 96 Tryz.underlying23 infoNd (by rfl) (w.heap.size + 3) _ xs w1 HS1.out.kids.out (by rfl) y _ (by rfl) _ w1.heap.size (by rfl) (by rfl) (by omega) ⟨HS1.out.size, by rfl⟩ ?_
             intro g3 cp3 w3 hO3 hb3 hfar hsz3 hat
             have hP := St.push hs.out HS1.out (z := wr.heap.size + 1) (by omega) (by simpa using HSEP.out) hO3 (((Below.refl _ w1).alloc (by have := HS1.out.size; omega) _).trans hb3) hfar hsz3 hat
             obtain ⟨R', hP⟩ := hP
             have HP := Lib.hid hP
             have hblk : w3.heap[w.heap.size + 1 + 1]? = _ := (hfar (w.heap.size + 1 + 1) (by omega) (fun e => by have := (HS1.out.kids.out.lt e).1; omega)).trans HS1.out.out
             have k7 := (row_cells8 hblk).1 7 (by omega)
             have kf7 := (row_cells8 hblk).2 7
             simp only [List.getElem?_cons_succ, List.getElem?_cons_zero] at k7
             clear hO3 hb3 hfar hsz3 hat hP hblk)
          ))
        all_goals
          go_wp2
          go_roundw
          case rel => exact ⟨k + 1, some ⟨g3, 0, none⟩, xs.length + 1, cp3, xs ++ [y], R', by omega, by go_num, by rw [HMT.out]; exact HP.out⟩
          case measure => simp [intOf]; omega
      · have hd := HD.out
        obtain rfl : k = ks.length := by omega
        have hfin := hs.out.finish
        rw [List.take_length, ← bare_mk' HD.out] at hfin
        have HFIN := Lib.hid hfin
        have ho := row_cells8 hs.out.out
        have hr := row_cells8 hs.out.res
        have c0 := ho.1 0 (by omega)
        have c1 := ho.1 1 (by omega)
        have c2 := ho.1 2 (by omega)
        have c3 := ho.1 3 (by omega)
        have c4 := ho.1 4 (by omega)
        have c5 := ho.1 5 (by omega)
        have c6 := ho.1 6 (by omega)
        have c7 := ho.1 7 (by omega)
        have r0 := hr.1 0 (by omega)
        have r1 := hr.1 1 (by omega)
        have r2 := hr.1 2 (by omega)
        have r3 := hr.1 3 (by omega)
        have r4 := hr.1 4 (by omega)
        have r5 := hr.1 5 (by omega)
        have r6 := hr.1 6 (by omega)
        have r7 := hr.1 7 (by omega)
        have f0 := hr.2 0
        have f1 := hr.2 1
        have f2 := hr.2 2
        have f3 := hr.2 3
        have f4 := hr.2 4
        have f5 := hr.2 5
        have f6 := hr.2 6
        have f7 := hr.2 7
        simp only [List.getElem?_cons_succ, List.getElem?_cons_zero] at c0 c1 c2 c3 c4 c5 c6 c7 r0 r1 r2 r3 r4 r5 r6 r7
        clear ho hr hd hfin hW
        go_wp2
        refine bodyPost_ret (results_cell_row rfl _ _ (w.heap.size + 1) _ _ _ _ rfl HFIN.out.1 Tryz.underlying25 rfl (by kernel_rfl)) rfl ?_
        exact ⟨_, rfl, HFIN.out.2.1, HFIN.out.2.2⟩
end Go.Proofs.YtgodeffkboihlaaGreatDoor.Tba
