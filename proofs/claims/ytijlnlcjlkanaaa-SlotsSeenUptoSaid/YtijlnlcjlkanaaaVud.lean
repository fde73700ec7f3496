/- (*slots.Table[drowselaw10.Pair]).All's closure: the iterator's contract. -/
import Derived.Test.YtijlnlcjlkanaaaSud
import Derived.Test.YtijlnlcjlkanaaaVtn
set_option linter.unusedVariables false
namespace Go.Proofs.Ytijlnlcjlkanaaa.Vud
open Sta (Hd hdE Step below_drewN below_drewN_up blk_cells)
open Stq (RowStep)
open Sud (Kept kept_t kept_b Kept.own grown_below)
open Suc (clone_any)
open Ste (hd_at)
open Go.RowKit Go.Shelf Vta Vtb Vtc Vtd Vtg Vte Vtl
attribute [local go_sem] Oper.semAt_some

abbrev encs (p : Hd × Th) : Array Value := #[.agg #[.int .u32 p.1.slot, .int .u32 p.1.gen], p.2.val]
def prE : Rwo.Enc Th where
  z := 2
  f x := [.string x.a, .slice x.p x.n x.c]
  d := th0
  len _ := rfl
  one s u hu := by
    simp only [List.mem_cons, List.not_mem_nil, or_false] at hu
    rcases hu with rfl | rfl <;> rfl
  pos := by omega
theorem infoPr : (Try.prog.info? 50).map (fun i => (i.zero, i.size, i.bytes)) = some (some (.agg #[.string .empty, .slice none 0 0]), 2, 40) := by kernel_rfl
section
variable {w : World}
theorem store_pr {B b cp n j : Nat} {l : List Th} {x : Th} (h : Rwo.Own prE 50 B (.slice (some ⟨b, 0, none⟩) n cp) l w) (hj : j < l.length) :
    Rwo.Own prE 50 B (.slice (some ⟨b, 0, none⟩) n cp) (l.set j x) ((w.setCell ⟨b, j * 2, none⟩ x.av).setCell ⟨b, j * 2 + 1, none⟩ x.bv) ∧ RowStep (.slice (some ⟨b, 0, none⟩) n cp) (.slice (some ⟨b, 0, none⟩) n cp) w ((w.setCell ⟨b, j * 2, none⟩ x.av).setCell ⟨b, j * 2 + 1, none⟩ x.bv) := by
  have hb := ((Below.refl 0 w).setCell (p := ⟨b, j * 2, none⟩) (Nat.zero_le _) x.av).setCell (p := ⟨b, j * 2 + 1, none⟩) (Nat.zero_le _) x.bv
  obtain ⟨s, hs⟩ : ∃ s, l.getD j th0 = s := ⟨_, rfl⟩
  refine ⟨?_, ⟨hb.os, hb.tape, hb.output, hb.size, fun b' h' hn => ?_, fun _ e => .inl e⟩⟩
  · have h1 := h.store j 0 x.av ⟨x.a, s.p, s.n, s.c⟩ hj (by show 0 < 2; omega) (by show prE.f _ = (prE.f (l.getD j th0)).set 0 _; rw [hs]; rfl)
    have h2 := h1.store j 1 x.bv x (by rw [List.length_set]; exact hj) (by show 1 < 2; omega) (by show prE.f _ = (prE.f ((l.set j _).getD j th0)).set 1 _; rw [List.getD_eq_getElem?_getD, List.getElem?_set_self hj]; rfl)
    rw [List.set_set] at h2
    exact h2
  · have hne : b' ≠ b := fun e => hn (by rw [e]; rfl)
    rw [sc_other hne, sc_other hne]
theorem pr_at {B b cp n j : Nat} {l : List Th} {x : Th} (h : Rwo.Own prE 50 B (.slice (some ⟨b, 0, none⟩) n cp) l w) (hj : j < l.length) (hx : l.getD j th0 = x) :
    (w.cell? ⟨b, j * 2, none⟩ = some (.string x.a) ∧ w.cell? ⟨b, j * 2 + 1, none⟩ = some (.slice x.p x.n x.c)) ∧ w.frozen? ⟨b, j * 2, none⟩ = false ∧ w.frozen? ⟨b, j * 2 + 1, none⟩ = false := by
  subst hx
  exact ⟨⟨h.cell j 0 hj (by show 0 < 2; omega), h.cell j 1 hj (by show 1 < 2; omega)⟩, h.frozen _, h.frozen _⟩
end
/-- What All tells of a table. -/
def tells (t : Tab) : List (Hd × Th) := t.ord.map fun h => (h, (t.sl.getD (h.slot - 1) ⟨0, 0, th0⟩).thing)
/-- The things, the first k of them. -/
def filled (l : List Th) (k : Nat) : List Th := l.take k ++ List.replicate (l.length - k) th0
theorem filled_length (l : List Th) (k : Nat) (hk : k ≤ l.length) : (filled l k).length = l.length := by
  unfold filled; rw [List.length_append, List.length_take, List.length_replicate, Nat.min_eq_left hk]; omega
theorem filled_succ (l : List Th) (k : Nat) (hk : k < l.length) : (filled l k).set k (l.getD k th0) = filled l (k + 1) := by
  unfold filled
  have h1 : (l.take k).length = k := by rw [List.length_take]; omega
  have h2 : l.length - k = (l.length - (k + 1)) + 1 := by omega
  rw [List.set_append_right _ _ (by omega), h1, Nat.sub_self, h2, List.replicate_succ, List.set_cons_zero, List.take_succ_eq_append_getElem hk, List.append_assoc]
  rw [List.getD_eq_getElem?_getD, List.getElem?_eq_getElem hk]
  rfl
theorem filled_all (l : List Th) : filled l l.length = l := by unfold filled; simp
theorem filled_none (l : List Th) : filled l 0 = List.replicate l.length th0 := by unfold filled; simp
def things (t : Tab) : List Th := (tells t).map (·.2)
theorem things_length (t : Tab) : (things t).length = t.ord.length := by unfold things tells; simp
theorem things_at (t : Tab) {k : Nat} {h : Hd} (hk : k < t.ord.length) (hh : t.ord.getD k ⟨0, 0⟩ = h) : (things t).getD k th0 = (t.sl.getD (h.slot - 1) ⟨0, 0, th0⟩).thing := by
  subst hh
  unfold things tells
  simp only [List.map_map, List.getD_eq_getElem?_getD, List.getElem?_map, List.getElem?_eq_getElem hk]
  rfl
theorem tells_at (t : Tab) {k : Nat} {h : Hd} (hk : k < t.ord.length) (hh : t.ord.getD k ⟨0, 0⟩ = h) : (tells t).take (k + 1) = (tells t).take k ++ [(h, (things t).getD k th0)] := by
  rw [List.take_add_one, things_at t hk hh]
  subst hh
  congr 1
  unfold tells
  rw [List.getElem?_map, List.getElem?_eq_getElem hk, List.getD_eq_getElem?_getD, List.getElem?_eq_getElem hk]
  rfl
abbrev encsT {T : List (Hd × Th)} (p : {p : Hd × Th // p ∈ T}) : Array Value := encs p.1
theorem attach_at (t : Tab) {k : Nat} {h : Hd} {x : Th} (hk : k < t.ord.length) (hh : t.ord.getD k ⟨0, 0⟩ = h) (hx : (things t).getD k th0 = x) : ∃ y : {p : Hd × Th // p ∈ tells t}, y.1 = (h, x) ∧ (tells t).attach.take (k + 1) = (tells t).attach.take k ++ [y] := by
  have h1 := tells_at t hk hh
  rw [hx] at h1
  have hk2 : k < (tells t).length := by unfold tells; rw [List.length_map]; exact hk
  have hk3 : k < (tells t).attach.length := by rw [List.length_attach]; exact hk2
  rw [List.take_succ_eq_append_getElem hk2] at h1
  have h2 := List.append_cancel_left h1
  rw [List.cons.injEq] at h2
  exact ⟨(tells t).attach[k], by rw [List.getElem_attach]; exact h2.1, List.take_succ_eq_append_getElem hk3⟩
/-- Between two rounds of the loop that gathers the things. -/
structure Mid (W : World) (bx cx : Nat) (vl : Value) (t : Tab) (k : Nat) (wx : World) : Prop where
  below : Below W.heap.size W wx
  l : Rwo.Own hdE 33 W.heap.size vl t.ord wx
  x : Rwo.Own prE 50 W.heap.size (.slice (some ⟨bx, 0, none⟩) t.ord.length cx) (filled (things t) k) wx
theorem grown_below {W W' : World} (h : Below W.heap.size W W') : W.grownBy W' none := ⟨h.os, h.tape, h.output, h.size, fun i hi _ => h.block i hi⟩
theorem mid_start {W w1 w2 : World} {vl : Value} {t : Tab} {bx : Nat} (hb1 : Below W.heap.size W w1) (hO : Rwo.Own hdE 33 W.heap.size vl t.ord w1) (hm : w2.ownsRow W.heap.size 50 2 (.slice (some ⟨bx, 0, none⟩) t.ord.length t.ord.length) t.ord.length (madeCells #[.string .empty, .slice none 0 0] (t.ord.length * 2)).toList) (hg : w1.grownBy w2 none) :
    Mid W bx t.ord.length vl t 0 w2 := by
  refine ⟨hb1.grown hg hb1.size (fun k hk => by cases hk), hO.kept fun b hb => ?_, ?_⟩
  · exact hg.block b (hO.lt hb).2 (by simp)
  · have := Rwq.own_made prE th0 #[.string .empty, .slice none 0 0] rfl hm
    rw [filled_none, things_length]
    exact this
/-- The thing of one more. -/
theorem Mid.next {W wx W2 : World} {bx cx k : Nat} {vl : Value} {t : Tab} {h : Hd} {x : Th} (m : Mid W bx cx vl t k wx) (hk : k < t.ord.length) (hh : t.ord.getD k ⟨0, 0⟩ = h) (hx : (t.sl.getD (h.slot - 1) ⟨0, 0, th0⟩).thing = x) (hb : Below wx.heap.size wx W2) :
    Mid W bx cx vl t (k + 1) ((W2.setCell ⟨bx, k * 2, none⟩ x.av).setCell ⟨bx, k * 2 + 1, none⟩ x.bv) := by
  have hO := m.x.below hb (Nat.le_refl _)
  have hlt := hO.lt (k := bx) rfl
  have hkl : k < (filled (things t) k).length := by rw [filled_length _ _ (by rw [things_length]; omega), things_length]; exact hk
  have hs := store_pr (x := x) hO hkl
  refine ⟨((m.below.trans (hb.mono m.below.size)).setCell (p := ⟨bx, k * 2, none⟩) hlt.1 _).setCell (p := ⟨bx, k * 2 + 1, none⟩) hlt.1 _, ?_, ?_⟩
  · refine (m.l.below hb (Nat.le_refl _)).kept fun b hb' => hs.2.far b ((m.l.below hb (Nat.le_refl _)).lt hb').2 ?_
    exact fun e => Rwo.Own.apart m.l m.x (by decide) hb' e
  · have := hs.1
    rw [← things_at t hk hh] at hx
    subst hx
    rw [filled_succ _ _ (by rw [things_length]; exact hk)] at this
    exact this
theorem Mid.cell {W wx : World} {bx cx k : Nat} {vl : Value} {t : Tab} (m : Mid W bx cx vl t k wx) (hk : k < t.ord.length) : (∃ u v, wx.cell? ⟨bx, k * 2, none⟩ = some u ∧ wx.cell? ⟨bx, k * 2 + 1, none⟩ = some v) ∧ wx.frozen? ⟨bx, k * 2, none⟩ = false ∧ wx.frozen? ⟨bx, k * 2 + 1, none⟩ = false := by
  have hkl : k < (filled (things t) k).length := by rw [filled_length _ _ (by rw [things_length]; omega), things_length]; exact hk
  obtain ⟨⟨h1, h2⟩, h3⟩ := pr_at m.x hkl rfl
  exact ⟨⟨_, _, h1, h2⟩, h3⟩
set_option maxHeartbeats 4000000 in
set_option maxRecDepth 100000 in
theorem all_stops (n g b : Nat) (vs vo : Value) (t : Tab) (w : World) (hn : 1 ≤ n) (hT : TabAt g vs vo t w) (hs : Small t) (hlv : ∀ h ∈ t.ord, lives t h = true) (hc : w.cell? ⟨b, 0, none⟩ = some (.pointer (some ⟨g, 0, none⟩))) (hb : b < w.heap.size) :
    SeqStopsK Fence.wide n Try.prog 36 #[.pointer (some ⟨b, 0, none⟩)] (encsT (T := tells t)) (Kept w.heap.size) (fun xs => xs = (tells t).attach) (fun pre => pre <+: (tells t).attach) (tells t).length w := fun l J Jx W hW hJ hJx hY h0 => by
  have hTW := Lib.hid (hT.below hW)
  have hcW : W.cell? ⟨b, 0, none⟩ = some (.pointer (some ⟨g, 0, none⟩)) := (hW.cell (p := ⟨b, 0, none⟩) hb).trans hc
  have hbW : b < W.heap.size := Nat.lt_of_lt_of_le hb hW.size
  have HW := Lib.hid hW
  have HY := Lib.hid hY
  have HJ := Lib.hid hJ
  have H0 := Lib.hid h0
  have HS := Lib.hid hs
  have HL := Lib.hid hlv
  clear hT hc hb hW hY hJ h0 hs hlv hJx
  have hordn := HS.out.ord
  obtain ⟨⟨c0, c1, c2, c3, c4⟩, f0, f1, f2, f3, f4⟩ := hTW.out.cells
  have CL := clone_any (g + 1) vo t.ord W hTW.out.ord hordn
  obtain ⟨i0, hi, hz0, hz1, hz2⟩ := info_parts infoPr
  refine callsIn_of_wp Try.func36 rfl trivial ?_ rfl
  refine wpIn_wide.2 ?_
  simp only [Try.ntmps36, List.size_toArray, List.length_cons, List.length_nil, Nat.reduceAdd, Nat.reduceSub, Array.replicate_succ, Array.replicate_zero, List.push_toArray, List.append_toArray, List.nil_append, List.cons_append]
  go_wp2_with fail
  refine CL.mono ?_
  rintro e w1 ⟨vl, rfl, hO1, hb1⟩
  obtain ⟨A1, k1, rfl⟩ := hO1.shape
  have HO1 := Lib.hid hO1
  have HB1 := Lib.hid hb1
  clear CL hO1 hb1
  go_wp2_with (at_make; refine wpList_make_full _ rfl _ _ 93 rfl W.heap.size 50 i0 (.agg #[.string .empty, .slice none 0 0]) 2 Try.underlying93 hi hz0 hz1 _ _ _ _ t.ord.length rfl rfl rfl rfl (by rw [hz2]; omega) (by unfold maxLen; omega) HB1.out.size ?_; intro w2 hm2 hg2)
  have HM0 := Lib.hid (mid_start HB1.out HO1.out hm2 hg2)
  clear hm2 hg2 HO1 hi hz0 hz1 hz2 c0 c1 c2 c3 c4 f0 f1 f2 f3 f4
  obtain ⟨bx, hbx⟩ : ∃ bx, bx = w1.heap.size := ⟨_, rfl⟩
  rw [← hbx] at HM0
  rw [← hbx]
  clear hbx HB1
  go_loopw [21] (fun u wx => ∃ k : Nat, k ≤ t.ord.length ∧ u = .int .i64 k ∧ Hid (Mid W bx t.ord.length (.slice A1 t.ord.length k1) t k wx)) (fun u _ => t.ord.length - (intOf u).toNat)
  case atStart => exact ⟨0, Nat.zero_le _, rfl, HM0.out⟩
  case round =>
    obtain ⟨k, hk, rfl, HM⟩ := hrel
    clear HM0
    by_cases hkl : k < t.ord.length
    · obtain ⟨bl, _, _, hv, hbl, _, hbl2, _⟩ := Rwo.Own.some HM.out.l (by intro e; rw [e, List.length_nil] at hkl; omega)
      simp only [Value.slice.injEq] at hv
      obtain ⟨rfl, _, rfl⟩ := hv
      obtain ⟨h, hh⟩ : ∃ h, t.ord.getD k ⟨0, 0⟩ = h := ⟨_, rfl⟩
      have hlh := HL.out h (by rw [← hh]; exact Vtn.getD_mem hkl)
      obtain ⟨q1, q2, q3, q4⟩ := lives_iff.1 hlh
      obtain ⟨j, hj⟩ : ∃ j, h.slot = j + 1 := ⟨h.slot - 1, by omega⟩
      obtain ⟨d0, d1⟩ := hd_at HM.out.l k hkl hh
      rw [hj] at d0
      obtain ⟨x, hx⟩ : ∃ x, (t.sl.getD j ⟨0, 0, th0⟩).thing = x := ⟨_, rfl⟩
      have HHH : Hid (t.ord.getD k ⟨0, 0⟩ = h ∧ (t.sl.getD (h.slot - 1) ⟨0, 0, th0⟩).thing = x) := ⟨hh, by rw [hj]; exact hx⟩
      have hjl : j < t.sl.length := by omega
      clear q1 q2 q3 q4 hlh hh
      go_upto_region 6 with fail
      have hbb := Suc.below_new wr (.cells #[.int .u32 ((j : Int) + 1), .int .u32 h.gen] 33)
      obtain ⟨e0, e1, _, _⟩ := Stc.hd_cells (heap_alloc_new wr (.cells #[.int .u32 ((j : Int) + 1), .int .u32 h.gen] 33))
      obtain ⟨W2, hW2⟩ : ∃ W2, W2 = wr.alloc (.cells #[.int .u32 ((j : Int) + 1), .int .u32 h.gen] 33) := ⟨_, rfl⟩
      rw [← hW2] at hbb e0 e1
      rw [← hW2]
      clear hW2 d0 d1
      have hbW2 : Below W.heap.size W W2 := HM.out.below.trans (hbb.mono HM.out.below.size)
      have HT2 := Lib.hid (hTW.out.below hbW2)
      have cb : W2.cell? ⟨b, 0, none⟩ = some (.pointer (some ⟨g, 0, none⟩)) := (hbW2.cell (p := ⟨b, 0, none⟩) hbW).trans hcW
      obtain ⟨⟨c0, _, _, _, _⟩, _⟩ := HT2.out.cells
      obtain ⟨bs, cs, _, hvs, _⟩ := Rwo.Own.some HT2.out.sl (by intro e; rw [e, List.length_nil] at hjl; omega)
      subst hvs
      obtain ⟨_, _, s2, s3⟩ := slot_cells HT2.out.sl j hjl rfl
      rw [hx] at s2 s3
      obtain ⟨⟨u0, v0, y0, y9⟩, y1, y8⟩ := HM.out.cell hkl
      have hbxlt := (HM.out.x.lt (k := bx) rfl).2
      have y2 : W2.cell? ⟨bx, k * 2, none⟩ = some u0 := (hbb.cell (p := ⟨bx, k * 2, none⟩) hbxlt).trans y0
      have y7 : W2.cell? ⟨bx, k * 2 + 1, none⟩ = some v0 := (hbb.cell (p := ⟨bx, k * 2 + 1, none⟩) hbxlt).trans y9
      have y3 : W2.frozen? ⟨bx, k * 2, none⟩ = false := ((HM.out.x.below hbb (Nat.le_refl _)).frozen (k * 2))
      have y6 : W2.frozen? ⟨bx, k * 2 + 1, none⟩ = false := ((HM.out.x.below hbb (Nat.le_refl _)).frozen (k * 2 + 1))
      have HNX := Lib.hid (HM.out.next hkl HHH.out.1 HHH.out.2 (hbb.drew))
      have u1 : IntKind.u32.wrap ((j : Int) + 1 - 1) = (j : Int) := by rw [Int.add_sub_cancel, IntKind.wrap_u32]; have := HT2.out.lt; have h1 := HS.out.len; have h2 := HS.out.most; omega
      have u2 : (0 : Int) ≤ (j : Int) := by omega
      have u3 : (j : Int) < (t.sl.length : Int) := by omega
      have u4 : IntKind.u32.wrap (j : Int) = (j : Int) := by rw [IntKind.wrap_u32]; have h1 := HS.out.len; have h2 := HS.out.most; omega
      clear y0 y1 y8 y9 hbb hbW2 hx hj
      go_still_tail 12, (by kernel_rfl)
      change wpList _ _ _ _ _ W2.drew
      go_wp2
      go_roundw
      case rel => exact ⟨k + 1, by omega, by go_num, HNX.out⟩
      case measure => simp [intOf]; omega
    · have hkn : k = t.ord.length := by omega
      have HR0 : Hid (Rwo.Own hdE 33 W.heap.size (.slice A1 t.ord.length k1) t.ord wr ∧ Rwo.Own prE 50 W.heap.size (.slice (some ⟨bx, 0, none⟩) t.ord.length t.ord.length) (things t) wr) := by
        refine ⟨HM.out.l, ?_⟩
        have := HM.out.x
        rw [hkn, ← things_length t, filled_all] at this
        rw [things_length] at this
        exact this
      have HJ0 := Lib.hid (HJ.out [] W wr none H0.out (grown_below HM.out.below) (fun r e => by cases e))
      have HWZ := Lib.hid HM.out.below.size
      clear HM hcW H0
      go_wp2_with fail
      refine (wpIn_wide (n := n)).1 ?_
      gi_loopw [42] (fun u wx => ∃ k : Nat, k ≤ t.ord.length ∧ u = .int .i64 k ∧ Hid ( J ((tells t).attach.take k) wx) ∧ Hid (W.heap.size ≤ wx.heap.size) ∧ Hid (Rwo.Own hdE 33 W.heap.size (.slice A1 t.ord.length k1) t.ord wx ∧ Rwo.Own prE 50 W.heap.size (.slice (some ⟨bx, 0, none⟩) t.ord.length t.ord.length) (things t) wx)) (fun u _ => t.ord.length - (intOf u).toNat)
      case atStart => exact ⟨0, Nat.zero_le _, rfl, HJ0.out, Nat.le_trans HWZ.out (Nat.le_refl _), HR0.out⟩
      case round =>
        obtain ⟨k', hk', rfl, HJk, HZ, HRk⟩ := hrel
        clear HJ0 HR0 hkl hkn hk HWZ
        by_cases hkl : k' < t.ord.length
        · obtain ⟨bl, _, _, hv, hbl, _, hbl2, _⟩ := Rwo.Own.some HRk.out.1 (by intro e; rw [e, List.length_nil] at hkl; omega)
          simp only [Value.slice.injEq] at hv
          obtain ⟨rfl, _, rfl⟩ := hv
          obtain ⟨h, hh⟩ : ∃ h, t.ord.getD k' ⟨0, 0⟩ = h := ⟨_, rfl⟩
          obtain ⟨x, hx⟩ : ∃ x, (things t).getD k' th0 = x := ⟨_, rfl⟩
          obtain ⟨d0, d1⟩ := hd_at HRk.out.1 k' hkl hh
          obtain ⟨⟨y0, y9⟩, _⟩ := pr_at HRk.out.2 (by rw [things_length]; exact hkl) hx
          have hbxlt := (HRk.out.2.lt (k := bx) rfl).2
          obtain ⟨y, hyv, hsn⟩ := attach_at t hkl hh hx
          have HSN := Lib.hid hsn
          have hlen : ((tells t).attach.take k').length < (tells t).length := by
            have : (tells t).length = t.ord.length := by unfold tells; simp
            rw [List.length_take, List.length_attach]; omega
          clear hsn hh hx
          gi_wp2_with fail
          obtain ⟨e0, e1, _, _⟩ := Stc.hd_cells (heap_alloc_new wr (.cells #[.int .u32 h.slot, .int .u32 h.gen] 33))
          have hbb := Suc.below_new wr (.cells #[.int .u32 h.slot, .int .u32 h.gen] 33)
          obtain ⟨W2, hW2⟩ : ∃ W2, W2 = wr.alloc (.cells #[.int .u32 h.slot, .int .u32 h.gen] 33) := ⟨_, rfl⟩
          rw [← hW2] at hbb e0 e1
          rw [← hW2]
          clear hW2 d0 d1
          have y2 : W2.cell? ⟨bx, k' * 2, none⟩ = some (.string x.a) := (hbb.cell (p := ⟨bx, k' * 2, none⟩) hbxlt).trans y0
          have y7 : W2.cell? ⟨bx, k' * 2 + 1, none⟩ = some (.slice x.p x.n x.c) := (hbb.cell (p := ⟨bx, k' * 2 + 1, none⟩) hbxlt).trans y9
          obtain ⟨fn, tm, asg, bdy, hy, hR⟩ := HY.out _ y W2.drew (HJ.out _ wr W2.drew none HJk.out (grown_below hbb.drew) (fun r e => by cases e)) hlen
          have HR2 : Hid (Rwo.Own hdE 33 W.heap.size (.slice (some ⟨bl, 0, none⟩) t.ord.length k1) t.ord W2.drew ∧ Rwo.Own prE 50 W.heap.size (.slice (some ⟨bx, 0, none⟩) t.ord.length t.ord.length) (things t) W2.drew) :=
            ⟨HRk.out.1.below hbb.drew (Nat.le_refl _), HRk.out.2.below hbb.drew (Nat.le_refl _)⟩
          have HZ2 : Hid (W.heap.size ≤ W2.heap.size) := Nat.le_trans HZ.out hbb.size
          have HWW : Hid (w.heap.size ≤ W.heap.size) := HW.out.size
          dsimp only [encsT] at hy
          rw [hyv] at hy
          dsimp only [encs] at hy
          clear y0 y9 hbb HJk HRk HZ hbxlt
          have hmix : Try.prog.follows .mixedOrders = true := by kernel_rfl
          gi_region_with_o (refine hR.mono ?_; rintro e W4 hcase; obtain ⟨bb, rfl, hbb⟩ : ∃ bb, e = .returned (.bool bb) ∧ ((bb = true ∧  J ((tells t).attach.take k' ++ [y]) W4 ∧ Kept w.heap.size W2.drew W4) ∨ (bb = false ∧ Jx ((tells t).attach.take k' ++ [y]) W4)) := by { rcases hcase with ⟨rfl, h1, h2⟩ | ⟨rfl, h1⟩; exact ⟨true, rfl, .inl ⟨rfl, h1, h2⟩⟩; exact ⟨false, rfl, .inr ⟨rfl, h1⟩⟩ })
          all_goals
            clear hR hy e0 e1 y2 y7 HY
            rcases hbb with ⟨rfl, hJ4, hk4⟩ | ⟨rfl, hJx4⟩
            · have HJ4 : Hid ( J ((tells t).attach.take (k' + 1)) W4) := by rw [HSN.out]; exact hJ4
              have HR4 : Hid (Rwo.Own hdE 33 W.heap.size (.slice (some ⟨bl, 0, none⟩) t.ord.length k1) t.ord W4 ∧ Rwo.Own prE 50 W.heap.size (.slice (some ⟨bx, 0, none⟩) t.ord.length t.ord.length) (things t) W4) :=
                ⟨Kept.own HR2.out.1 hk4 HWW.out, Kept.own HR2.out.2 hk4 HWW.out⟩
              have HZ4 : Hid (W.heap.size ≤ W4.heap.size) := Nat.le_trans HZ2.out hk4.1
              clear hJ4 hk4 HR2 HZ2
              gi_wp2
              go_roundw
              case rel => exact ⟨k' + 1, by omega, by go_num, HJ4.out, HZ4.out, HR4.out⟩
              case measure => simp [intOf]; omega
            · have HJ4 : Hid ((tells t).attach.take k' ++ [y] <+: (tells t).attach ∧ Jx ((tells t).attach.take k' ++ [y]) W4) := ⟨by rw [← HSN.out]; exact List.take_prefix _ _, hJx4⟩
              clear hJx4 HR2 HZ2
              gi_wp2
              refine bodyPost_ret (results_none rfl _ _ _) rfl ?_
              exact ⟨⟨_, rfl⟩, .inr ⟨_, HJ4.out.1, HJ4.out.2⟩⟩
        · have HJ4 : Hid (J (tells t).attach wr) := by
            have e : (tells t).attach.take k' = (tells t).attach := List.take_of_length_le (by rw [List.length_attach]; unfold tells; rw [List.length_map]; omega)
            have := HJk.out
            rw [e] at this
            exact this
          clear HJk HY
          gi_wp2
          first | go_end0 | refine bodyPost_ret (results_none rfl _ _ _) rfl ?_
          exact ⟨⟨_, rfl⟩, .inl ⟨_, rfl, HJ4.out⟩⟩
end Go.Proofs.Ytijlnlcjlkanaaa.Vud
