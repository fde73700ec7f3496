/- drowseref21.Text. -/
import Derived.Test.YtclcbiiijoeplaaDoorRpt
import Derived.Test.YtclcbiiijoeplaaDoorAps
import Derived.Lib.Bytes
set_option linter.unusedVariables false
namespace Go.Proofs.YtclcbiiijoeplaaDoor.Rtx
open Go.RowKit Rpl Rwd Rmy Rln Rpp Rpq Rbk Rpt Aps

theorem Ownb.below {B B' : Nat} {v : Value} {l : List UInt8} {w w' : World} (h : App.Own B v l w) (hb : Below B' w w') (hB : w.heap.size ≤ B') : App.Own B v l w' := by
  refine ⟨h.1, h.2.imp id ?_⟩
  rintro ⟨g, cap, cur, hv, h0, h1, h2⟩
  refine ⟨g, cap, cur, hv, h0, ?_, h2⟩
  have hg : g < w.heap.size := (Array.getElem?_eq_some_iff.1 h1).1
  rw [hb.block g (by omega)]; exact h1
set_option maxHeartbeats 4000000 in
set_option maxRecDepth 100000 in
theorem rtext_some (b o c : Nat) (l : List Bk) (w : World) (hf : Hid (Fits l)) (ht : Hid (Bks w b o l)) (hb : b < w.heap.size) :
    Calls Tryd.prog 9 #[.slice (some ⟨b, o, none⟩) l.length c] w fun e w' => e = routcome (textL l) ∧ Below w.heap.size w w' := by
  have hl := hf.out.1
  go_enter Tryd.func9, Tryd.ntmps9
  go_wp2
  go_loopw [4, 5] (fun v i wr => ∃ k : Nat, k ≤ l.length ∧ i = .int .i64 k ∧ App.Own w.heap.size v (acc l k) wr ∧ Below w.heap.size w wr ∧ Hid (∀ j, j < k → may (l.getD j bk0) = true)) (fun _ i _ => l.length - (intOf i).toNat)
  case atStart => exact ⟨0, Nat.zero_le _, rfl, App.Own.nil _ _, Below.refl _ _, fun j hj => absurd hj (by omega)⟩
  case round =>
    obtain ⟨k, hk, rfl, hI, hbw, hN⟩ := hrel
    have hsz := hbw.size
    by_cases hlt : k < l.length
    · obtain ⟨t, hT⟩ : ∃ t, l.getD k bk0 = t := ⟨_, rfl⟩
      have hat := (ht.out k hlt).below hbw hb
      have hfn := hf.out.2 k hlt
      rw [hT] at hat hfn
      have HT := Lib.hid hT
      clear hT
      have HAT := Lib.hid hat
      obtain ⟨c0, c1, c2, c3⟩ := hat
      obtain ⟨A1, cp1, rfl⟩ := hI.shape
      have HI := Lib.hid hI
      clear hI
      go_wp2_with fail
      refine (may_any t wr (by omega)).mono ?_
      rintro e w1 ⟨rfl, hb1⟩
      clear c0 c1 c2 c3
      have hsz1 := hb1.size
      have hsz2 : w.heap.size ≤ w1.heap.size := by omega
      have hb2 : Below w.heap.size w w1 := hbw.trans (hb1.mono hsz)
      cases hm : may t with
      | true =>
        have HM := Lib.hid hm
        clear hm
        obtain ⟨c0, c1, c2, c3⟩ := HAT.out.below hb1 (by omega)
        have hI1 := Ownb.below HI.out hb1 (Nat.le_refl _)
        clear HI
        have hS := lineL_size HM.out
        have hroom := acc_room hf.out k hk hN.out
        have HN2 : Hid (∀ j, j < k + 1 → may (l.getD j bk0) = true) := by
          intro j hj
          by_cases e : j = k
          · rw [e, HT.out]; exact HM.out
          · exact hN.out j (by omega)
        obtain ⟨L, hL⟩ : ∃ L, L = lineL t := ⟨_, rfl⟩
        rw [← hL] at hS
        have HA : Hid (acc l (k + 1) = (acc l k ++ L.data.toList) ++ [10]) := by
          show acc l k ++ (lineL (l.getD k bk0)).data.toList ++ [10] = _
          rw [HT.out, hL]
        have C : Hid (∀ w, Calls Tryd.prog 24 #[t.val] w fun e w' => e = .returned (.string L) ∧ Below w.heap.size w w') :=
          fun w => (line_any t w (by omega) HM.out).mono fun _ _ h => ⟨hL ▸ h.1, h.2⟩
        clear hL hN
        obtain ⟨L2, hL2⟩ : ∃ L2, L2 = acc l k ++ L.data.toList := ⟨_, rfl⟩
        have hL3 : L2.length = (acc l k).length + L.size := by rw [hL2, List.length_append, list_size]
        rw [← hL2] at HA
        have HL := Lib.hid hL2
        clear hL2
        have HL3 := Lib.hid hL3
        clear hL3
        have HI1 := Lib.hid hI1
        clear hI1
        go_wp2_with fail
        refine (C.out _).mono ?_
        rintro e w2 ⟨rfl, hb3⟩
        clear c0 c1 c2 c3
        have hsz3 := hb3.size
        have hsz4 : w.heap.size ≤ w2.heap.size := by omega
        have hb4 : Below w.heap.size w w2 := hb2.trans (hb3.mono hsz2)
        have hI2 := Ownb.below HI1.out hb3 (Nat.le_refl _)
        go_wp2_with (at_builtin; first
            | (refine wpList_appS rfl _ _ rfl w.heap.size _ _ w2 hI2 rfl L rfl (by omega) hsz4 ?_; intro v3 w3 hI3 hb5; rw [← HL.out] at hI3; obtain ⟨A2, cp2, rfl⟩ := hI3.shape; have hsz5 := hb5.size; clear hI2)
            | (refine App.wpList_app rfl _ _ rfl w.heap.size _ _ w3 hI3 rfl [10] _ rfl _ _ rfl rfl (by have := HL3.out; simp only [List.length_cons, List.length_nil]; omega) (by omega) ?_; intro v4 w4 hI4 hb6))
        rw [← HA.out] at hI4
        obtain ⟨A3, cp3, rfl⟩ := hI4.shape
        go_wp2
        go_roundw
        case rel => exact ⟨k + 1, by omega, by go_num, hI4, (hb4.trans hb5).trans hb6, HN2⟩
        case measure => simp [intOf]; omega
      | false =>
        have HF : Hid (textL l = none) := textL_none hlt (by rw [HT.out]; exact hm)
        have hm := hm
        clear HI
        go_wp2
        go_ret2
        exact ⟨by rw [HF.out]; rfl, hb2⟩
    · have hke : k = l.length := by omega
      have HE : Hid (textL l = some ⟨(acc l k).toArray⟩) := by rw [hke]; exact textL_some fun j hj => hN.out j (by omega)
      have hroom := acc_room hf.out k hk hN.out
      clear hN hke
      obtain ⟨A1, cp1, rfl⟩ := hI.shape
      have kc := App.run_string _ _ _ _ hI
      have HI := Lib.hid hI
      clear hI
      go_wp2
      go_ret2
      exact ⟨by rw [HE.out]; rfl, hbw⟩
set_option maxHeartbeats 1000000 in
set_option maxRecDepth 100000 in
theorem rtext_none (x : Option Addr) (c : Nat) (w : World) :
    Calls Tryd.prog 9 #[.slice x 0 c] w fun e w' => e = routcome (textL []) ∧ Below w.heap.size w w' := by
  have kc := App.run_string 0 _ _ w (App.Own.nil 0 w)
  go_enter Tryd.func9, Tryd.ntmps9
  go_wp2
  go_loopw [4, 5] (fun v i wr => v = .slice none 0 0 ∧ i = .int .i64 ((0 : Nat) : Int) ∧ wr = w) (fun _ i _ => 0)
  case atStart => exact ⟨rfl, rfl, rfl⟩
  case round =>
    obtain ⟨rfl, rfl, rfl⟩ := hrel
    go_wp2
    go_ret2
    exact ⟨by rfl, Below.refl _ _⟩
theorem rtext_any (v : Value) (l : List Bk) (w : World) (hf : Fits l) (hv : Lies w v l) :
    Calls Tryd.prog 9 #[v] w fun e w' => e = routcome (textL l) ∧ Below w.heap.size w w' := by
  rcases hv with ⟨rfl, x, c, rfl⟩ | ⟨b, o, c, rfl, h1, h2⟩
  · exact rtext_none x c w
  · exact rtext_some b o c l w hf h2 h1
end Go.Proofs.YtclcbiiijoeplaaDoor.Rtx
