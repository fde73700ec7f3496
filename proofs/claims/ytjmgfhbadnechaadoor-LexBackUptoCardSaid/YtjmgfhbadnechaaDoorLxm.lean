/- lex.Join. -/
import Derived.Test.YtjmgfhbadnechaaDoorLxk
set_option linter.unusedVariables false
namespace Go.Proofs.YtjmgfhbadnechaaDoor.Lxm
open Go.RowKit Wrd Nam Env Num Lxp Lxw Lxv Lxr App Aps Lxj Lxk

set_option maxHeartbeats 1000000 in
set_option maxRecDepth 100000 in
theorem join_some (b o c : Nat) (l : List Tok) (w : World) (hf : Hid (Fits l)) (ht : Hid (Toks w b o l)) (hb : b < w.heap.size) (hE : Hid (Pow w)) :
    Calls Tryd.prog 8 #[.slice (some ⟨b, o, none⟩) l.length c] w fun e w' => e = outcome (joined l) ∧ Below w.heap.size w w' := by
  have hl := hf.out.1
  obtain ⟨i0, hi, hz0, hz1, hz2⟩ := info_parts infoStr
  go_enter Tryd.func8, Tryd.ntmps8
  go_wp2_with (at_make; refine wpList_make_full _ rfl _ _ 27 rfl w.heap.size 9 i0 (.string ⟨#[]⟩) 1 Tryd.underlying27 hi hz0 hz1 _ _ _ _ l.length rfl rfl rfl rfl (by rw [hz2]; omega) (by unfold maxLen; omega) (Nat.le_refl _) ?_)
  intro w0 hown hg
  have hbw0 : Below w.heap.size w w0 := (Below.refl _ w).grown hg (Nat.le_refl _) (fun k hk => by cases hk)
  have HP0 : Hid (Parts w.heap.size w.heap.size l.length 0 (Lxk.part l) w0) := parts_made hown
  clear hown hg hi hz0 hz1 hz2
  go_wp2
  go_loopw [14] (fun i wr => ∃ k : Nat, k ≤ l.length ∧ i = .int .i64 k ∧ Hid (Parts w.heap.size w.heap.size l.length k (Lxk.part l) wr) ∧ Below w.heap.size w wr ∧ Hid (∀ j, j < k → (txt l j).isSome = true)) (fun i _ => l.length - (intOf i).toNat)
  case atStart => exact ⟨0, Nat.zero_le _, rfl, HP0, hbw0, fun j hj => absurd hj (by omega)⟩
  case round =>
    obtain ⟨k, hk, rfl, HP, hbw, hN⟩ := hrel
    clear HP0 hbw0
    have hsz := hbw.size
    by_cases hlt : k < l.length
    · obtain ⟨t, hT⟩ : ∃ t, l.getD k zero = t := ⟨_, rfl⟩
      have hat := (ht.out k hlt).below hbw hb
      rw [hT] at hat
      have hok : Hid (Tok.ok t) := by rw [← hT]; exact (hf.out.2 k hlt).ok
      have HT := Lib.hid hT
      clear hT
      obtain ⟨c0, c1, c2, c3, c4⟩ := hat
      go_wp2_with fail
      refine (written_any t _ hok.out ?_).mono ?_
      · exact hE.out.below (hbw.trans ((Below.refl _ wr).alloc (by omega) _))
      rintro e w1 ⟨⟨s, bb, rfl, hW⟩, hb1⟩
      have hc := hb1.cell (p := ⟨wr.heap.size, 0, none⟩) (by simp)
      have HW := Lib.hid hW
      have hba : Below wr.heap.size wr w1 := below_box hb1
      have hb2 : Below w.heap.size w w1 := hbw.trans (hba.mono hsz)
      have hsz1 := hba.size
      have HP1 := Lib.hid (HP.out.below hba (Nat.le_refl _))
      obtain ⟨u, hu⟩ := HP1.out.cell k hlt
      have hfro := HP1.out.frozen k
      clear HP hW c0 c1 c2 c3 c4
      cases bb with
      | false =>
        have HR : Hid (joined l = none) := outcome_none hlt (txt_none HT.out (by rcases HW.out with ⟨_, h⟩ | ⟨h, _⟩; exact absurd h (by decide); exact h))
        clear HW hN
        go_wp2
        go_ret2
        exact ⟨by rw [HR.out]; rfl, hb2⟩
      | true =>
        have hws : Hid (Lxp.written t = some s) := by rcases HW.out with ⟨h, _⟩ | ⟨_, h⟩; exact h; exact absurd h (by decide)
        have fin : (t.kind == 0) = false ∨ k + 1 = l.length → Hid (Parts w.heap.size w.heap.size l.length (k + 1) (Lxk.part l) (w1.setCell ⟨w.heap.size, k, none⟩ (.string s))) ∧ Hid (∀ j, j < k + 1 → (txt l j).isSome = true) := by
          intro hn
          have h := txt_some HT.out hws.out hn
          refine ⟨?_, ?_⟩
          · have hp : Lxk.part l k = s := by show (txt l k).getD _ = s; rw [h]; rfl
            have := HP1.out.store hlt
            rw [hp] at this
            exact this
          · intro j hj
            by_cases e : j = k
            · rw [e, h]; rfl
            · exact hN.out j (by omega)
        have FIN := Lib.hid fin
        clear HW fin
        cases h0 : (t.kind == 0) with
        | false =>
          obtain ⟨f1, f2⟩ := FIN.out (.inl h0)
          go_wp2
          go_roundw
          case rel => exact ⟨k + 1, by omega, by go_num, f1, hb2.setCell (p := ⟨w.heap.size, k, none⟩) (Nat.le_refl _) _, f2⟩
          case measure => simp [intOf]; omega
        | true =>
          cases h1 : decide ((k : Int) < (l.length : Int) - 1) with
          | true =>
            have h1' := of_decide_eq_true h1
            have HR : Hid (joined l = none) := outcome_none hlt (txt_end HT.out h0 (by omega))
            go_wp2
            go_ret2
            exact ⟨by rw [HR.out]; rfl, hb2⟩
          | false =>
            have h1' := of_decide_eq_false h1
            obtain ⟨f1, f2⟩ := FIN.out (.inr (by omega))
            go_wp2
            go_roundw
            case rel => exact ⟨k + 1, by omega, by go_num, f1, hb2.setCell (p := ⟨w.heap.size, k, none⟩) (Nat.le_refl _) _, f2⟩
            case measure => simp [intOf]; omega
    · have hkn : k = l.length := by omega
      have HR : Hid (joined l = some ⟨(acc l l.length).toArray⟩) := outcome_some fun j hj => hN.out j (by omega)
      have HP1 : Hid (Parts w.heap.size w.heap.size l.length l.length (Lxk.part l) wr) := by have h := HP.out; rw [hkn] at h; exact h
      have hj := acc_join l l.length
      have hroom := acc_room hf.out l.length (Nat.le_refl _)
      have hpz := HP1.out.size
      obtain ⟨xs, hxs⟩ : ∃ xs, xs = (List.range l.length).map (Lxk.part l) := ⟨_, rfl⟩
      have hxl : xs.length = l.length := by rw [hxs]; simp
      have hJ : Lib.join (xs.map (·.data.toList)) [32] = acc l l.length := by rw [hxs, List.map_map]; exact hj
      have HJ := Lib.hid hJ
      have HC := Lib.hid (show ∀ (j : Nat) x, xs[j]? = some x → wr.cell? ⟨w.heap.size, 0 + j, none⟩ = some (.string x) by rw [hxs]; exact HP1.out.cells)
      have HXL := Lib.hid hxl
      clear hkn HP hj hJ hxs hxl
      go_wp2_with fail
      rw [← HXL.out]
      refine (Tryd.strings_Join w.heap.size 0 _ xs ⟨#[32]⟩ wr HC.out hpz.1 (by rw [HXL.out]; omega) (Nat.le_refl _) (by show (Lib.join _ [32]).length ≤ _; rw [HJ.out]; omega)).mono ?_
      rintro e w1 ⟨he, hb3⟩
      have he2 : e = .returned (.string ⟨(acc l l.length).toArray⟩) := by rw [he, ← HJ.out]
      subst he2
      clear he
      have hb4 := hbw.trans (hb3.mono hsz)
      go_wp2
      go_ret2
      exact ⟨by rw [HR.out]; rfl, hb4⟩

set_option maxHeartbeats 1000000 in
set_option maxRecDepth 100000 in
theorem join_nil (x : Option Addr) (c : Nat) (w : World) :
    Calls Tryd.prog 8 #[.slice x 0 c] w fun e w' => e = outcome (joined []) ∧ Below w.heap.size w w' := by
  have HR : Hid (joined [] = some ⟨#[]⟩) := joined_nil
  obtain ⟨i0, hi, hz0, hz1, hz2⟩ := info_parts infoStr
  go_enter Tryd.func8, Tryd.ntmps8
  go_wp2_with (at_make; refine wpList_make_full _ rfl _ _ 27 rfl w.heap.size 9 i0 (.string ⟨#[]⟩) 1 Tryd.underlying27 hi hz0 hz1 _ _ _ _ 0 rfl rfl rfl rfl (by rw [hz2]; omega) (by unfold maxLen; omega) (Nat.le_refl _) ?_)
  intro w0 hown hg
  have hbw0 : Below w.heap.size w w0 := (Below.refl _ w).grown hg (Nat.le_refl _) (fun k hk => by cases hk)
  have hsz := hbw0.size
  clear hown hg hi hz0 hz1 hz2
  go_wp2
  go_loopw [14] (fun i wr => i = .int .i64 ((0 : Nat) : Int) ∧ wr = w0) (fun i _ => 0)
  case atStart => exact ⟨rfl, rfl⟩
  case round =>
    obtain ⟨rfl, rfl⟩ := hrel
    go_wp2_with fail
    refine (Tryd.strings_Join_none _ _ _ _).mono ?_
    rintro e w1 ⟨rfl, rfl⟩
    go_wp2
    go_ret2
    exact ⟨by rw [HR.out]; rfl, hbw0⟩
theorem join_any (v : Value) (l : List Tok) (w : World) (hf : Fits l) (h : Lies w v l) (hE : Pow w) :
    Calls Tryd.prog 8 #[v] w fun e w' => e = outcome (joined l) ∧ Below w.heap.size w w' := by
  rcases h with ⟨rfl, x, c, rfl⟩ | ⟨b, o, c, rfl, h1, h2⟩
  · exact join_nil x c w
  · exact join_some b o c l w hf h2 h1 hE
end Go.Proofs.YtjmgfhbadnechaaDoor.Lxm
