/- tree's writer: lines, block. -/
import Derived.Test.YtgodeffkboihlaaGreatDoorTwi
set_option linter.unusedVariables false
namespace Go.Proofs.YtgodeffkboihlaaGreatDoor.Twj
open Go.RowKit Tra Trb Trf Trd Tcn Trh Tha Txa Tpr Tpt Twa Twb Twc Twd Twe

/-- What a method that writes a statement pays, however deep. -/
def WritesS (F : FuncId) (X : Nat → Bs) (t : Tr) : Prop := ∀ (B p k : Nat) (l : Bs) (w : World) (b o : Nat), Ws B p l k w → k + size t ≤ 1000000000000 → At w (fun b => b < B) t b o → l.length + (X k).length ≤ most →
  Calls Tryz.prog F #[.pointer (some ⟨p, 0, none⟩), .pointer (some ⟨b, o, none⟩)] w (Post B p l (X k) k w)
theorem linesTo_le (S : Nat → Tr → Bs) (k : Nat) (ks : List Tr) {m n : Nat} (h : m ≤ n) : (linesTo S k ks m).length ≤ (linesTo S k ks n).length := by
  induction n with
  | zero => obtain rfl : m = 0 := by omega
            exact Nat.le_refl _
  | succ n ih =>
    by_cases e : m = n + 1
    · subst e; exact Nat.le_refl _
    · have := ih (by omega); simp only [linesTo, List.length_append]; omega
variable {B p k : Nat} {l : Bs} {w : World}
theorem Ws.deep (h : Ws B p l k w) (k' : Nat) : Ws B p l k' (w.setCell ⟨p, 2, none⟩ (.int .i64 k')) ∧ Below B w (w.setCell ⟨p, 2, none⟩ (.int .i64 k')) ∧ Keeps p w (w.setCell ⟨p, 2, none⟩ (.int .i64 k')) := by
  have hb : Below B w (w.setCell ⟨p, 2, none⟩ (.int .i64 k')) := (Below.refl B w).setCell (p := ⟨p, 2, none⟩) h.wr.le _
  exact ⟨h.of (h.wr.deep k') hb, hb, (Lib.OthersKept.refl _ _ w).setCell ⟨p, 2, none⟩ rfl _⟩
set_option maxHeartbeats 4000000 in
set_option maxRecDepth 100000 in
theorem lines_any (S : Nat → Tr → Bs) (ks : List Tr) (a : Option Addr) (c : Nat) (hlen : ks.length ≤ 1048576) (hSt : ∀ j, j < ks.length → WritesS 52 (fun k => S k (kid j ks)) (kid j ks)) (hS : Ws B p l k w) (hk : k + 1 + sizes ks ≤ 1000000000000) (hK : KL w (fun b => b < B) ks a) (hl : l.length + (linesX S k ks).length ≤ most) :
    Calls Tryz.prog 41 #[.pointer (some ⟨p, 0, none⟩), .slice a ks.length c] w (Post B p l (linesX S k ks) k w) := by
  have HS := Lib.hid hS
  have HKL := Lib.hid hK
  have HE := Lib.hid hSt
  have HL := Lib.hid hl
  unfold linesX
  obtain ⟨c2, f2⟩ := hS.wr.cell2
  obtain ⟨n1, hn1⟩ : ∃ n1 : Nat, k + 1 = n1 := ⟨_, rfl⟩
  have hsum : (k : Int) + 1 = (n1 : Int) := by omega
  have hdif : (n1 : Int) - 1 = (k : Int) := by omega
  have hwr1 : IntKind.i64.wrap (n1 : Int) = (n1 : Int) := IntWalk.i64_in _ (by omega)
  have hwr0 : IntKind.i64.wrap (k : Int) = (k : Int) := IntWalk.i64_in _ (by omega)
  have HN1 := Lib.hid hn1
  have HKB := Lib.hid hk
  obtain ⟨d1, d2, d3⟩ := Ws.deep hS n1
  have HD := Lib.hid d1
  have HDB := Lib.hid d2
  have HDK := Lib.hid d3
  clear hS hK hSt hl hn1 hk d1 d2 d3
  go_enter Tryz.func41, Tryz.ntmps41
  go_wp2_with fail
  go_loopw [14] (fun i wr => ∃ j : Nat, j ≤ ks.length ∧ i = .int .i64 j ∧ Hid (Ws B p (l ++ linesTo S k ks j) n1 wr) ∧ Hid (Below B w wr) ∧ Hid (Keeps p w wr)) (fun i _ => ks.length - (intOf i).toNat)
  case atStart => exact ⟨0, Nat.zero_le _, rfl, by show Ws B p (l ++ []) n1 _; rw [List.append_nil]; exact HD.out, HDB.out, HDK.out⟩
  case round =>
    obtain ⟨j, hj, rfl, hw, hbw, hkw⟩ := hrel
    by_cases hlt : j < ks.length
    · obtain ⟨kb, ko, e⟩ : ∃ kb ko, a = some ⟨kb, ko, none⟩ := by
        rcases HKL.out with h | ⟨kb, ko, e, _⟩
        · rw [h] at hlt; simp at hlt
        · exact ⟨kb, ko, e⟩
      subst e
      have HC := Lib.hid (linesTo_le S k ks hlt)
      have LEN : Hid (l.length + ((linesTo S k ks j).length + ((tabsT n1).length + ((S n1 (kid j ks)).length + 1))) ≤ most) := by
        show _ ≤ _
        have h1 := HL.out
        have h2 := HC.out
        unfold linesX at h1
        rw [← HN1.out]
        simp only [linesTo, List.length_append, List.length_singleton] at h2
        omega
      go_wp2_with fail
      refine (tabs_any hw.out (by have := HKB.out; have := HN1.out; omega) (by have := LEN.out; simp only [List.length_append]; omega)).mono ?_
      rintro e w1 ⟨rfl, h1, h2, h3⟩
      have HS1 := Lib.hid h1
      have HB1 := Lib.hid (hbw.out.trans h2)
      have HK1 : Hid (Keeps p w w1) := hkw.out.trans h3
      clear h1 h2 h3
      have HAT := Lib.hid (kl_at (KL.low HKL.out HB1.out) hlt)
      have HEE := Lib.hid (HE.out j hlt B p n1 _ w1 _ _ HS1.out (by have := HKB.out; have := HN1.out; have := size_kid hlt; show n1 + size (ks.getD j tr0) ≤ _; omega) HAT.out (by have := LEN.out; simp only [List.length_append]; omega))
      go_wp2_with fail
      refine HEE.out.mono ?_
      rintro e w2 ⟨rfl, h1, h2, h3⟩
      have HS2 := Lib.hid h1
      have HB2 := Lib.hid (HB1.out.trans h2)
      have HK2 : Hid (Keeps p w w2) := HK1.out.trans h3
      clear h1 h2 h3
      go_wp2_with fail
      refine (add1 ⟨#[10]⟩ HS2.out (by have := LEN.out; show _ + 1 ≤ _; simp only [List.length_append]; omega)).mono ?_
      rintro e w3 ⟨rfl, h1, h2, h3⟩
      have H1 : Hid (Ws B p (l ++ linesTo S k ks (j + 1)) n1 w3) := by
        show Ws B p _ n1 w3
        have e : linesTo S k ks (j + 1) = linesTo S k ks j ++ (tabsT n1 ++ (S n1 (kid j ks) ++ [10])) := by rw [← HN1.out]; rfl
        rw [e]
        simpa using h1
      have HB3 := Lib.hid (HB2.out.trans h2)
      have HK3 : Hid (Keeps p w w3) := HK2.out.trans h3
      clear h1 h2 h3
      go_wp2
      go_roundw
      case rel => exact ⟨j + 1, by omega, by go_num, H1, HB3, HK3⟩
      case measure => simp [intOf]; omega
    · obtain rfl : j = ks.length := by omega
      obtain ⟨c2, f2⟩ := hw.out.wr.cell2
      obtain ⟨d1, d2, d3⟩ := Ws.deep hw.out k
      have HD := Lib.hid d1
      have HDB := Lib.hid (hbw.out.trans d2)
      have HDK : Hid (Keeps p w _) := hkw.out.trans d3
      clear d1 d2 d3
      go_wp2
      go_end0
      exact ⟨rfl, HD.out, HDB.out, HDK.out⟩
set_option maxHeartbeats 4000000 in
set_option maxRecDepth 100000 in
theorem block_writes (S : Nat → Tr → Bs) (t : Tr) (hF : Fit t) (hSt : ∀ j, j < t.kids.length → WritesS 52 (fun k => S k (kid j t.kids)) (kid j t.kids)) : WritesS 28 (fun k => blockX S k t) t := by
  obtain ⟨d, ks⟩ := t
  simp only [Tr.kids] at hSt
  intro B p k l w b o hS hk hA hl
  obtain ⟨a, c, hN⟩ := Nb.start hA
  have hlen := fit_len hF
  have hl' : l.length + ([123, 10] ++ (linesX S k ks ++ (tabsT k ++ [125]))).length ≤ most := hl
  have hk' : k + 1 + sizes ks ≤ 1000000000000 := by simp only [size] at hk; omega
  have HE := Lib.hid hSt
  have HS := Lib.hid hS
  have HL := Lib.hid hl'
  have HKB := Lib.hid hk'
  have HX := Lib.hid hN
  have HB := Lib.hid (Below.refl B w)
  have HK : Hid (Keeps p w w) := Lib.OthersKept.refl _ _ _
  show Calls _ _ _ _ (Post B p l ([123, 10] ++ (linesX S k ks ++ (tabsT k ++ [125]))) k w)
  obtain ⟨kk, tx, n, ty, s4, s5, s6⟩ := d
  obtain ⟨c0, c1, c2, c3, c7⟩ := HX.out.cells
  clear hSt hS hl hl' hk hk' hN hA hF
  go_enter Tryz.func28, Tryz.ntmps28
  go_wp2_with fail
  refine (add1 ⟨#[123, 10]⟩ HS.out (by have := HL.out; simp at this ⊢; omega)).mono ?_
  rintro e w1 ⟨rfl, h1, h2, h3⟩
  have HS := Lib.hid h1
  have HX := Lib.hid (HX.out.kept h2)
  have HB := Lib.hid (HB.out.trans h2)
  have HK : Hid (Keeps p w w1) := HK.out.trans h3
  clear h1 h2 h3 c0 c1 c2 c3 c7
  obtain ⟨c0, c1, c2, c3, c7⟩ := HX.out.cells
  go_wp2_with fail
  refine (lines_any S ks _ _ hlen HE.out HS.out HKB.out HX.out.kl (by have := HL.out; simp at this ⊢; omega)).mono ?_
  rintro e w2 ⟨rfl, h1, h2, h3⟩
  have HS := Lib.hid h1
  have HB := Lib.hid (HB.out.trans h2)
  have HK : Hid (Keeps p w w2) := HK.out.trans h3
  clear h1 h2 h3 c0 c1 c2 c3 c7
  go_wp2_with fail
  refine (tabs_any HS.out (by have := HKB.out; omega) (by have := HL.out; simp at this ⊢; omega)).mono ?_
  rintro e w3 ⟨rfl, h1, h2, h3⟩
  have HS := Lib.hid h1
  have HB := Lib.hid (HB.out.trans h2)
  have HK : Hid (Keeps p w w3) := HK.out.trans h3
  clear h1 h2 h3
  go_wp2_with fail
  refine (add1 ⟨#[125]⟩ HS.out (by have := HL.out; simp at this ⊢; omega)).mono ?_
  rintro e w4 ⟨rfl, h1, h2, h3⟩
  have HS := Lib.hid h1
  have HB := Lib.hid (HB.out.trans h2)
  have HK : Hid (Keeps p w w4) := HK.out.trans h3
  clear h1 h2 h3
  go_wp2
  go_end0
  refine ⟨rfl, ?_, HB.out, HK.out⟩
  have := HS.out
  simpa using this
end Go.Proofs.YtgodeffkboihlaaGreatDoor.Twj
