/- The walk of LexJoins. -/
import Derived.Test.YtjmgfhbadnechaaDoorLxs
import Derived.Laws.OwnMore
import Derived.OwnWalk
set_option linter.unusedVariables false
namespace Go.Proofs.YtjmgfhbadnechaaDoor.Ljw
open Go.RowKit Wrd Nam Env Num Lxp Lxw Lxv Lxr App Aps Lxj Lxk Lxs

theorem infoTok : (Tryd.prog.info? 42).map (fun i => (i.zero, i.size, i.bytes)) = some (some (.agg #[.int .i64 0, .string ⟨#[]⟩, .int .i64 0, .int .i64 0, .int .i64 0]), 5, 48) := by kernel_rfl
theorem outcome_shape (o : Option ByteArray) : ∃ s n, outcome o = .returned (.tuple #[.string s, .int .i64 n]) := by
  cases o with
  | none => exact ⟨_, _, rfl⟩
  | some s => exact ⟨_, _, rfl⟩
/-- v is a []string of the call's own with n elements. -/
def OwnS (B : Nat) (v : Value) (n : Nat) (w : World) : Prop := ∃ xs, w.ownsRow B 9 1 v n xs
theorem OwnS.store {B g n cap : Nat} {w : World} (h : OwnS B (.slice (some ⟨g, 0, none⟩) n cap) n w) (j : Nat) (u : Value) : OwnS B (.slice (some ⟨g, 0, none⟩) n cap) n (w.setCell ⟨g, j, none⟩ u) := by
  obtain ⟨xs, hx⟩ := h
  exact ⟨_, (hx.stored j u).1⟩
theorem OwnS.cell {B g n cap : Nat} {w : World} (h : OwnS B (.slice (some ⟨g, 0, none⟩) n cap) n w) (j : Nat) (hj : j < n) : ∃ u, w.cell? ⟨g, j, none⟩ = some u := by
  obtain ⟨xs, hx⟩ := h
  rw [hx.cellAt j (by omega)]
  have : j < xs.length := by rw [hx.1]; omega
  exact ⟨xs[j], List.getElem?_eq_getElem this⟩
theorem OwnS.frozen {B g n cap : Nat} {w : World} (h : OwnS B (.slice (some ⟨g, 0, none⟩) n cap) n w) (j : Nat) : w.frozen? ⟨g, j, none⟩ = false := by
  obtain ⟨xs, hx⟩ := h
  exact hx.frozenAt j
theorem own_signs (w : World) : OwnS w.heap.size (.slice (some ⟨w.heap.size, 0, none⟩) 27 27) 27 (w.alloc (.cells signCells 9)) :=
  ⟨_, World.ownsRow_lit w signCells 27 (Nat.le_refl _) (by unfold maxLen; omega) rfl⟩
set_option maxHeartbeats 1000000 in
set_option maxRecDepth 100000 in
theorem walk (v : Value) (l : List Tok) (w : World) (hf : Hid (Fits l)) (hv : Hid (Lies w v l)) (hE : Hid (Pow w)) :
    Calls Tryd.prog 3 #[v] w fun e w' => e = .returned (.bool true) ∧ Below w.heap.size w w' := by
  obtain ⟨i0, hi, hz0, hz1, hz2⟩ := info_parts infoTok
  have hl := hf.out.1
  have HO : Hid (OwnT w.heap.size (.slice (some ⟨w.heap.size, 0, none⟩) 0 0) [] (w.alloc (.cells #[] 42))) :=
    World.ownsRow_lit w #[] 0 (Nat.le_refl _) (by unfold maxLen; omega) rfl
  have HS : Hid (Src Tryd.prog 5 22 v l.length (tokCells l) (w.alloc (.cells #[] 42))) := Lxs.Lies.src (hv.out.below ((Below.refl _ w).alloc (Nat.le_refl _) _))
  go_enter Tryd.func3, Tryd.ntmps3
  go_wp2_with (at_builtin; go_loud (refine wpList_app_src _ rfl _ _ 22 22 rfl w.heap.size 42 i0 _ 5 48 Tryd.underlying22 hi hz0 hz1 hz2 rfl (by decide) _ 0 [] rfl HO.out v l.length (tokCells l) rfl HS.out (by unfold maxLen; omega) (by omega) (by simp) ?_))
  intro v2 w2 hown hg
  have hbw : Below w.heap.size w w2 := ((Below.refl _ w).alloc (Nat.le_refl _) _).grown hg (by simp) (fun k hk => by simp [Value.ownBlock] at hk; omega)
  have hL : Lies w2 v2 l := OwnT.lies (B := w.heap.size) hown
  have hL2 : Lies w2 v l := hv.out.below hbw
  obtain ⟨J, hJ⟩ : ∃ J, joined l = J := ⟨_, rfl⟩
  obtain ⟨s, nJ, hsh⟩ := outcome_shape J
  have hsz := hbw.size
  have hE2 := hE.out.below hbw
  have C1 := Lib.hid (Lxm.join_any v2 l w2 hf.out hL hE2)
  rw [hJ, hsh] at C1
  have C2 : Hid (∀ w3, Below w2.heap.size w2 w3 → Calls Tryd.prog 9 #[v] w3 fun e w' => e = .returned (.tuple #[.string s, .int .i64 nJ]) ∧ Below w3.heap.size w3 w') := by
    intro w3 hb
    have h := rjoin_any v l w3 hf.out (hL2.below hb)
    rw [hJ, hsh] at h
    exact h
  have C3 : Hid (∀ w3, Below w2.heap.size w2 w3 → Calls Tryd.prog 10 #[v2, v] w3 fun e w' => e = .returned (.bool true) ∧ Below w3.heap.size w3 w') := by
    intro w3 hb
    refine (same_any v2 v l l w3 hl (hL.below hb) (hL2.below hb)).mono ?_
    rintro e w' ⟨⟨r, he, hr⟩, q, rfl⟩
    exact ⟨by rw [he, hr.2 rfl], below_drewN w3 q⟩
  obtain ⟨A2, cp2, rfl⟩ : ∃ A c, v2 = .slice A l.length c := by
    rcases hown.2 with ⟨h, h0⟩ | ⟨g, cap, cur, h, _⟩
    · exact ⟨none, 0, by rw [h, h0]⟩
    · exact ⟨_, _, h⟩
  clear hown hg hL hL2 hJ hsh HS HO hi hz0 hz1 hz2 hE2
  go_wp2_with fail
  refine C1.out.mono ?_
  rintro e w3 ⟨rfl, hb3⟩
  go_wp2_with fail
  refine (C2.out w3 hb3).mono ?_
  rintro e w4 ⟨rfl, hb4⟩
  have hb4' := hb3.trans (hb4.mono hb3.size)
  go_wp2_with fail
  refine (C3.out w4 hb4').mono ?_
  rintro e w5 ⟨rfl, hb5⟩
  have hbw5 : Below w.heap.size w w5 := hbw.trans ((hb4'.trans (hb5.mono hb4'.size)).mono hsz)
  clear C1 C2 C3 hb3 hb4 hb4' hb5 hbw hsz
  have hsz5 := hbw5.size
  go_wp2_with fail
  refine (signs_any w5).mono ?_
  rintro e w6 ⟨rfl, rfl⟩
  have HO := Lib.hid (own_signs w5)
  go_wp2
  go_loopw [10] (fun i wr => ∃ k : Nat, k ≤ 27 ∧ i = .int .i64 k ∧ Hid (OwnS w5.heap.size (.slice (some ⟨w5.heap.size, 0, none⟩) 27 27) 27 wr) ∧ Below w5.heap.size w5 wr) (fun i _ => 27 - (intOf i).toNat)
  case atStart => exact ⟨0, by omega, rfl, HO, (Below.refl _ w5).alloc (Nat.le_refl _) _⟩
  case round =>
    obtain ⟨k, hk, rfl, HO2, hb⟩ := hrel
    clear HO
    by_cases hlt : k < 27
    · obtain ⟨u, hcell⟩ := HO2.out.cell k hlt
      have hfro := HO2.out.frozen k
      go_wp2
      go_roundw
      case rel => exact ⟨k + 1, by omega, by go_num, Lib.hid (HO2.out.store k _), hb.setCell (p := ⟨w5.heap.size, k, none⟩) (Nat.le_refl _) _⟩
      case measure => simp [intOf]; omega
    · have hb2 : Below w.heap.size w wr := hbw5.trans (hb.mono hsz5)
      clear HO2 hb
      have hszr := hb2.size
      go_wp2_with fail
      refine (signs_any wr).mono ?_
      rintro e w6 ⟨rfl, rfl⟩
      go_wp2_with fail
      refine (rsigns_any _).mono ?_
      rintro e w6 ⟨rfl, rfl⟩
      have HA : Hid (∀ j, j < 27 → ((wr.alloc (.cells signCells 9)).alloc (.cells signCells 9)).cell? ⟨wr.heap.size, j, none⟩ = some (.string (signs.getD j ByteArray.empty))) := fun j hj => by
        rw [World.cell?_alloc_past _ _ _ (by simp)]
        exact strs_new wr signs 9 j (by rw [signs_length]; exact hj)
      have HB : Hid (∀ j, j < 27 → ((wr.alloc (.cells signCells 9)).alloc (.cells signCells 9)).cell? ⟨wr.heap.size + 1, j, none⟩ = some (.string (signs.getD j ByteArray.empty))) := fun j hj => by
        have e : (wr.alloc (.cells signCells 9)).heap.size = wr.heap.size + 1 := by simp
        rw [← e]
        exact strs_new (wr.alloc (.cells signCells 9)) signs 9 j (by rw [signs_length]; exact hj)
      have hb3 : Below w.heap.size w ((wr.alloc (.cells signCells 9)).alloc (.cells signCells 9)) := (hb2.alloc hszr _).alloc (by simp; omega) _
      obtain ⟨W3, hW3⟩ : ∃ W3, W3 = (wr.alloc (.cells signCells 9)).alloc (.cells signCells 9) := ⟨_, rfl⟩
      have hs3 : W3.heap.size = wr.heap.size + 1 + 1 := by rw [hW3]; simp
      rw [← hW3] at HA HB hb3 ⊢
      clear hW3
      have HS3 := Lib.hid hs3
      clear hs3 hb2
      go_wp2
      go_loopw [13] (fun i wr => ∃ k q : Nat, k ≤ 27 ∧ i = .int .i64 k ∧ wr = W3.drewN q) (fun i _ => 27 - (intOf i).toNat)
      case atStart => exact ⟨0, 0, by omega, rfl, rfl⟩
      case round =>
        obtain ⟨k, q, hk, rfl, rfl⟩ := hrel
        by_cases hlt : k < 27
        · have ca := HA.out k hlt
          have cb := HB.out k hlt
          go_wp2
          go_quiet (fail)
          go_wp2
          go_roundw
          case rel => exact ⟨k + 1, _, by omega, by go_num, rfl⟩
          case measure => simp [intOf]; omega
        · clear HA HB
          have hb4 : Below w.heap.size w (W3.drewN q) := hb3.trans ((Wrd.below_drewN W3 q).mono hb3.size)
          go_wp2
          go_ret
          exact ⟨rfl, hb4⟩
end Go.Proofs.YtjmgfhbadnechaaDoor.Ljw
