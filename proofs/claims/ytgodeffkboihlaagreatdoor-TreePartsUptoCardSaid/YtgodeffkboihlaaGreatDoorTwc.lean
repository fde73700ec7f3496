/- tree's writer: hold, list. -/
import Derived.Test.YtgodeffkboihlaaGreatDoorTwb
set_option linter.unusedVariables false
namespace Go.Proofs.YtgodeffkboihlaaGreatDoor.Twc
open Go.RowKit Tra Trb Trf Trd Tcn Trh Tha Txa Twa Twb

variable {B p d : Nat} {l : Bs} {w : World}
/-- Some of a list, a comma and a blank between. -/
def comma (E : Tr → Bs) (ks : List Tr) : Nat → Bs
  | 0 => []
  | n + 1 => comma E ks n ++ ((if n = 0 then [] else [44, 32]) ++ E (ks.getD n tr0))
def commas (E : Tr → Bs) (ks : List Tr) : Bs := comma E ks ks.length
def heldT (E : Tr → Bs) (must : Bool) (t : Tr) : Bs := if must then [40] ++ E t ++ [41] else E t
theorem comma_le (E : Tr → Bs) (ks : List Tr) {m n : Nat} (h : m ≤ n) : (comma E ks m).length ≤ (comma E ks n).length := by
  induction n with
  | zero => obtain rfl : m = 0 := by omega
            exact Nat.le_refl _
  | succ n ih =>
    by_cases e : m = n + 1
    · subst e; exact Nat.le_refl _
    · have := ih (by omega); simp only [comma, List.length_append]; omega
set_option maxHeartbeats 2000000 in
set_option maxRecDepth 100000 in
theorem add_d (ps : List ByteArray) (l : List UInt8) (q : Nat) (u : FrameMode) {b : Nat} {d : Int} (w : World) (h : Wr B b l d w) (hq : w.heap[q]? = some (.cells (ps.map Value.string).toArray 9 (0, 0))) (hqb : q ≠ b) (hlen : l.length + (cat ps).length ≤ 140737488355328) (hps : ps.length ≤ 1000) :
    CallsD Tryz.prog 27 #[.pointer (some ⟨b, 0, none⟩), .slice (some ⟨q, 0, none⟩) ps.length ps.length] u w fun e u' w' => u' = u ∧ Wrote B b l (cat ps) d w e w' := by
  have hBw : B ≤ w.heap.size := Nat.le_trans h.le (Nat.le_of_lt h.lt)
  have HQ := Lib.hid hq
  have H := Lib.hid h
  clear hq h
  unfold Wrote
  go_enter_d Tryz.func27, Tryz.ntmps27
  go_wp2_with fail
  go_loopw [8] (fun i wr => ∃ k : Nat, k ≤ ps.length ∧ i = .int .i64 k ∧ Hid (Wr B b (l ++ cat (ps.take k)) d wr) ∧ Hid (Below B w wr) ∧ Hid (Keeps b w wr)) (fun i _ => ps.length - (intOf i).toNat)
  case atStart => exact ⟨0, Nat.zero_le _, rfl, by show Wr B b (l ++ cat (ps.take 0)) d w; simpa [cat] using H.out, Below.refl _ _, Lib.OthersKept.refl _ _ _⟩
  case round =>
    obtain ⟨k, hk, rfl, hw, hbw, hkw⟩ := hrel
    by_cases hlt : k < ps.length
    · have hr : wr.heap[q]? = some (.cells (ps.map Value.string).toArray 9 (0, 0)) := hkw.out q _ HQ.out (fun e => hqb (Option.some.inj e)) (fun c fz e => by simp at e)
      have hcell : wr.cell? ⟨q, k, none⟩ = some (.string (ps.getD k .empty)) := by
        rw [Lib.cell_of_heap hr]; simp [List.getD_eq_getElem?_getD, hlt]
      obtain ⟨s, hs⟩ : ∃ s, ps.getD k .empty = s := ⟨_, rfl⟩
      rw [hs] at hcell
      have hsn := take_snoc ps k hlt
      rw [hs] at hsn
      have hle := len_le (l := ps) (i := k + 1)
      have HW := Lib.hid (writeString (l ++ cat (ps.take k)) s wr hw.out (by rw [hsn] at hle; simp at hle ⊢; omega) (Nat.le_trans hw.out.le (Nat.le_of_lt hw.out.lt)))
      have HSN := Lib.hid hsn
      clear hr hs hle hsn
      go_wp2_with fail
      refine HW.out.mono ?_
      rintro e w1 ⟨rfl, h1, hb1, hk1⟩
      have H1 : Hid (Wr B b (l ++ cat (ps.take (k + 1))) d w1) := by
        show Wr B b (l ++ cat (ps.take (k + 1))) d w1
        rw [HSN.out, ← List.append_assoc]; exact h1
      have HB1 := Lib.hid (hbw.out.trans hb1)
      have HK1 := Lib.hid (hkw.out.trans hk1)
      clear h1 hb1 hk1
      go_wp2
      go_roundw
      case rel => exact ⟨k + 1, by omega, by go_num, H1, HB1, HK1⟩
      case measure => simp [intOf]; omega
    · obtain rfl : k = ps.length := by omega
      go_wp2
      go_end0
      exact ⟨rfl, by have := hw.out; rwa [List.take_length] at this, hbw.out, hkw.out⟩
set_option maxHeartbeats 2000000 in
set_option maxRecDepth 100000 in
theorem hold_any (E : Tr → Bs) (t : Tr) (hE : Writes 68 (E t) t) (must : Bool) (b o : Nat) (hS : Ws B p l d w) (hA : At w (fun b => b < B) t b o) (hlen : l.length + (heldT E must t).length ≤ most) :
    Calls Tryz.prog 116 #[.pointer (some ⟨p, 0, none⟩), .pointer (some ⟨b, o, none⟩), .bool must] w (Post B p l (heldT E must t) d w) := by
  have HS := Lib.hid hS
  have HA := Lib.hid hA
  have HE := Lib.hid hE
  cases must
  · unfold heldT at hlen ⊢
    simp only [Bool.false_eq_true, if_false] at hlen ⊢
    have HL := Lib.hid hlen
    clear hS hA hE hlen
    go_enter Tryz.func116, Tryz.ntmps116
    go_wp2_with fail
    refine (HE.out B p d l _ b o HS.out HA.out HL.out).mono ?_
    rintro e w2 ⟨rfl, h1, h2, h3⟩
    have HS2 := Lib.hid h1
    have HB2 := Lib.hid h2
    have HK2 := Lib.hid h3
    clear h1 h2 h3
    go_wp2
    go_end0
    exact ⟨rfl, HS2.out, HB2.out, HK2.out⟩
  · unfold heldT at hlen ⊢
    simp only [if_true] at hlen ⊢
    have HL := Lib.hid hlen
    clear hS hA hE hlen
    go_enter_defers Tryz.func116, Tryz.ntmps116
    go_wp2_with fail
    refine (add1 ⟨#[40]⟩ HS.out (by have := HL.out; simp at this ⊢; omega)).mono ?_
    rintro e w1 ⟨rfl, h1, h2, h3⟩
    have hq := heap_alloc_new w1 (.cells #[.string ⟨#[41]⟩] 9)
    have hb1 := (Below.refl w1.heap.size w1).alloc (Nat.le_refl _) (.cells #[.string ⟨#[41]⟩] 9)
    have HS1 := Lib.hid (h1.kept hb1)
    have HB1 := Lib.hid (h2.trans (hb1.mono h1.hB))
    have HK1 : Hid (Keeps p w (w1.alloc (.cells #[.string ⟨#[41]⟩] 9))) := h3.trans (keeps_below hb1)
    have HQ := Lib.hid hq
    have hqp : w1.heap.size ≠ p := fun e => by have := h1.hp; omega
    have HQP := Lib.hid hqp
    have HA1 := Lib.hid (At.low HA.out HB1.out)
    clear h1 h2 h3 hq hb1 hqp
    go_wp2_with fail
    refine (HE.out B p d _ _ b o HS1.out HA1.out (by have := HL.out; simp at this ⊢; omega)).mono ?_
    rintro e w2 ⟨rfl, h1, h2, h3⟩
    have HQ2 := Lib.hid (h3 _ _ HQ.out (fun e => HQP.out (Option.some.inj e)) (fun c fz e => by simp at e))
    have HS2 := Lib.hid h1
    have HB2 := Lib.hid (HB1.out.trans h2)
    have HK2 : Hid (Keeps p w w2) := HK1.out.trans h3
    clear h1 h2 h3
    go_wp2
    refine leaves_cons (f := 27) (args := #[.pointer (some ⟨p, 0, none⟩), .slice (some ⟨w1.heap.size, 0, none⟩) 1 1]) (by simp) (by simp [go_sem]) ?_
    refine (add_d [⟨#[41]⟩] (l ++ [40] ++ E t) w1.heap.size .returning w2 HS2.out.wr HQ2.out HQP.out (by have := HL.out; simp [cat] at this ⊢; unfold most at this; omega) (by simp)).mono ?_
    rintro e u' w3 ⟨rfl, rfl, h1, h2, h3⟩
    have HS3 : Hid (Ws B p (l ++ ([40] ++ E t ++ [41])) d w3) := by
      have := HS2.out.of h1 h2
      show Ws B p (l ++ ([40] ++ E t ++ [41])) d w3
      simpa [cat] using this
    have HB3 := Lib.hid (HB2.out.trans h2)
    have HK3 : Hid (Keeps p w w3) := HK2.out.trans h3
    clear h1 h2 h3
    simp only [Leaves, settle]
    exact ⟨.tuple #[], results_none rfl _ _ _, rfl, HS3.out, HB3.out, HK3.out⟩
set_option maxHeartbeats 2000000 in
set_option maxRecDepth 100000 in
theorem list_any (E : Tr → Bs) (ks : List Tr) (a : Option Addr) (c : Nat) (hlen : ks.length ≤ 1048576) (hE : ∀ j, j < ks.length → Writes 68 (E (ks.getD j tr0)) (ks.getD j tr0)) (hS : Ws B p l d w) (hK : KL w (fun b => b < B) ks a) (hl : l.length + (commas E ks).length ≤ most) :
    Calls Tryz.prog 117 #[.pointer (some ⟨p, 0, none⟩), .slice a ks.length c] w (Post B p l (commas E ks) d w) := by
  have HS := Lib.hid hS
  have HKL := Lib.hid hK
  have HE := Lib.hid hE
  have HL := Lib.hid hl
  unfold commas
  clear hS hK hE hl
  go_enter Tryz.func117, Tryz.ntmps117
  go_wp2_with fail
  go_loopw [7] (fun i wr => ∃ k : Nat, k ≤ ks.length ∧ i = .int .i64 k ∧ Hid (Ws B p (l ++ comma E ks k) d wr) ∧ Hid (Below B w wr) ∧ Hid (Keeps p w wr)) (fun i _ => ks.length - (intOf i).toNat)
  case atStart => exact ⟨0, Nat.zero_le _, rfl, by show Ws B p (l ++ []) d w; rw [List.append_nil]; exact HS.out, Below.refl _ _, Lib.OthersKept.refl _ _ _⟩
  case round =>
    obtain ⟨k, hk, rfl, hw, hbw, hkw⟩ := hrel
    by_cases hlt : k < ks.length
    · obtain ⟨kb, ko, e⟩ : ∃ kb ko, a = some ⟨kb, ko, none⟩ := by
        rcases HKL.out with h | ⟨kb, ko, e, _⟩
        · rw [h] at hlt; simp at hlt
        · exact ⟨kb, ko, e⟩
      subst e
      have HC := Lib.hid (comma_le E ks hlt)
      by_cases h0 : k = 0
      · subst h0
        have HAT := Lib.hid (kl_at (KL.low HKL.out hbw.out) hlt)
        have HEE := Lib.hid (HE.out 0 hlt B p d _ wr _ _ hw.out HAT.out (by have := HL.out; have h2 := HC.out; unfold commas at this; simp [comma] at h2 ⊢; omega))
        go_wp2_with fail
        refine HEE.out.mono ?_
        rintro e w1 ⟨rfl, h1, h2, h3⟩
        have H1 : Hid (Ws B p (l ++ comma E ks (0 + 1)) d w1) := by
          show Ws B p _ d w1
          simpa [comma] using h1
        have HB1 := Lib.hid (hbw.out.trans h2)
        have HK1 : Hid (Keeps p w w1) := hkw.out.trans h3
        clear h1 h2 h3
        go_wp2
        go_roundw
        case rel => exact ⟨1, by omega, by go_num, H1, HB1, HK1⟩
        case measure => simp [intOf]; omega
      · have f0 : decide ((0 : Int) < (k : Int)) = true := by simp; omega
        have f1 : decide (0 < k) = true := by simp; omega
        have H0 := Lib.hid h0
        clear h0
        go_wp2_with fail
        refine (add1 ⟨#[44, 32]⟩ hw.out (by have := HL.out; have h2 := HC.out; have h0 := H0.out; unfold commas at this; simp [comma, h0] at h2 ⊢; omega)).mono ?_
        rintro e w1 ⟨rfl, h1, h2, h3⟩
        have HS1 := Lib.hid h1
        have HB1 := Lib.hid (hbw.out.trans h2)
        have HK1 : Hid (Keeps p w w1) := hkw.out.trans h3
        clear h1 h2 h3
        have HAT := Lib.hid (kl_at (KL.low HKL.out HB1.out) hlt)
        have HEE := Lib.hid (HE.out k hlt B p d _ w1 _ _ HS1.out HAT.out (by have := HL.out; have h2 := HC.out; have h0 := H0.out; unfold commas at this; simp [comma, h0] at h2 ⊢; omega))
        go_wp2_with fail
        refine HEE.out.mono ?_
        rintro e w2 ⟨rfl, h1, h2, h3⟩
        have H1 : Hid (Ws B p (l ++ comma E ks (k + 1)) d w2) := by
          show Ws B p _ d w2
          have h0 := H0.out
          simpa [comma, h0] using h1
        have HB2 := Lib.hid (HB1.out.trans h2)
        have HK2 : Hid (Keeps p w w2) := HK1.out.trans h3
        clear h1 h2 h3
        go_wp2
        go_roundw
        case rel => exact ⟨k + 1, by omega, by go_num, H1, HB2, HK2⟩
        case measure => simp [intOf]; omega
    · obtain rfl : k = ks.length := by omega
      go_wp2
      go_end0
      exact ⟨rfl, hw.out, hbw.out, hkw.out⟩
end Go.Proofs.YtgodeffkboihlaaGreatDoor.Twc
