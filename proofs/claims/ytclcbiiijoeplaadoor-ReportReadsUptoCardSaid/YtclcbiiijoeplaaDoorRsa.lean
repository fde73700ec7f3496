/- drowseref21.Same. -/
import Derived.Test.YtclcbiiijoeplaaDoorRbk
import Derived.Deep.QuietTactic
import Derived.BigQuiet
import Derived.Lib.Bytes
import Derived.IntWalk
set_option linter.unusedVariables false
namespace Go.Proofs.YtclcbiiijoeplaaDoor.Rsa
open Go.RowKit Rpl Rwo Rbk

theorem ba_ext {a b : ByteArray} (h : a.data.toList = b.data.toList) : a = b := by
  cases a; cases b; simp only [ByteArray.mk.injEq]; exact Array.toList_inj.1 h
theorem tok_eq {s t : Bk} (e0 : (s.ser == t.ser) = true) (e1 : (s.lin == t.lin) = true) (e2 : (s.fn.toList == t.fn.toList) = true) (e3 : (s.on == t.on) = true) : s = t := by
  obtain ⟨a0, a1, a2, a3⟩ := s
  obtain ⟨b0, b1, b2, b3⟩ := t
  have h0 := eq_of_beq e0; have h1 := eq_of_beq e1; have h2 := eq_of_beq e2; have h3 := eq_of_beq e3
  simp only at h0 h1 h2 h3
  rw [Lib.toList_data, Lib.toList_data] at h2
  rw [h0, h1, ba_ext h2, h3]
theorem differ {l m : List Bk} {k : Nat} {s t : Bk} (hs : l.getD k bk0 = s) (ht : m.getD k bk0 = t) (h : s ≠ t) : l ≠ m := by
  intro e; rw [e, ht] at hs; exact h hs.symm
theorem alike {l m : List Bk} (hl : l.length = m.length) (h : ∀ j, j < l.length → l.getD j bk0 = m.getD j bk0) : l = m := by
  apply List.ext_getElem hl
  intro j h1 h2
  have := h j h1
  simpa [List.getD_eq_getElem?_getD, h1, h2] using this
set_option maxHeartbeats 1000000 in
set_option maxRecDepth 100000 in
theorem same_some (b o c b2 o2 c2 : Nat) (l m : List Bk) (w : World) (hf : l.length ≤ 4611686018427387904) (ht : Hid (Bks w b o l)) (hm : Hid (Bks w b2 o2 m)) (hlen : l.length = m.length) :
    Calls Tryd.prog 10 #[.slice (some ⟨b, o, none⟩) l.length c, .slice (some ⟨b2, o2, none⟩) m.length c2] w fun e w' => (∃ r, e = .returned (.bool r) ∧ (r = true ↔ l = m)) ∧ ∃ q, w' = w.drewN q := by
  · rw [← hlen]
    have HL := Lib.hid hlen
    clear hlen
    go_enter Tryd.func10, Tryd.ntmps10
    go_wp2
    go_loopw [5] (fun i wr => ∃ k q : Nat, k ≤ l.length ∧ i = .int .i64 k ∧ wr = w.drewN q ∧ Hid (∀ j, j < k → l.getD j bk0 = m.getD j bk0)) (fun i _ => l.length - (intOf i).toNat)
    case atStart => exact ⟨0, 0, Nat.zero_le _, rfl, rfl, fun j hj => absurd hj (by omega)⟩
    case round =>
      obtain ⟨k, q, hk, rfl, rfl, hN⟩ := hrel
      by_cases hlt : k < l.length
      · obtain ⟨s, hS⟩ : ∃ s, l.getD k bk0 = s := ⟨_, rfl⟩
        obtain ⟨t, hT⟩ : ∃ t, m.getD k bk0 = t := ⟨_, rfl⟩
        have h1 := ht.out k hlt
        have h2 := hm.out k (by rw [← HL.out]; exact hlt)
        rw [hS] at h1
        rw [hT] at h2
        have HS := Lib.hid hS
        have HT := Lib.hid hT
        clear hS hT
        obtain ⟨c0, c1, c2', c3⟩ := h1
        obtain ⟨d0, d1, d2, d3⟩ := h2
        cases e0 : (s.ser == t.ser) with
        | false =>
          have HR : Hid (l ≠ m) := differ HS.out HT.out (by intro e; rw [e] at e0; simp at e0)
          go_wp2_with fail
          go_quiet (fail)
          go_wp2
          go_ret
          exact ⟨⟨_, rfl, ⟨fun h => (by cases h), fun h => absurd h HR.out⟩⟩, _, by first | exact World.drewN_drewN .. | rfl⟩
        | true =>
        cases e1 : (s.lin == t.lin) with
        | false =>
          have HR : Hid (l ≠ m) := differ HS.out HT.out (by intro e; rw [e] at e1; simp at e1)
          go_wp2_with fail
          go_quiet (fail)
          go_wp2
          go_ret
          exact ⟨⟨_, rfl, ⟨fun h => (by cases h), fun h => absurd h HR.out⟩⟩, _, by first | exact World.drewN_drewN .. | rfl⟩
        | true =>
        cases e2 : (s.fn.toList == t.fn.toList) with
        | false =>
          have HR : Hid (l ≠ m) := differ HS.out HT.out (by intro e; rw [e] at e2; simp at e2)
          go_wp2_with fail
          go_quiet (fail)
          go_wp2
          go_ret
          exact ⟨⟨_, rfl, ⟨fun h => (by cases h), fun h => absurd h HR.out⟩⟩, _, by first | exact World.drewN_drewN .. | rfl⟩
        | true =>
        cases e3 : (s.on == t.on) with
        | false =>
          have HR : Hid (l ≠ m) := differ HS.out HT.out (by intro e; rw [e] at e3; simp at e3)
          go_wp2_with fail
          go_quiet (fail)
          go_wp2
          go_ret
          exact ⟨⟨_, rfl, ⟨fun h => (by cases h), fun h => absurd h HR.out⟩⟩, _, by first | exact World.drewN_drewN .. | rfl⟩
        | true =>
          have HE : Hid (s = t) := tok_eq e0 e1 e2 e3
          have HN2 : Hid (∀ j, j < k + 1 → l.getD j bk0 = m.getD j bk0) := by
            intro j hj
            by_cases e : j = k
            · rw [e, HS.out, HT.out]; exact HE.out
            · exact hN.out j (by omega)
          clear hN
          go_wp2_with fail
          go_quiet (fail)
          go_wp2
          go_roundw
          case rel => exact ⟨k + 1, _, by omega, by go_num, rfl, HN2⟩
          case measure => simp [intOf]; omega
      · have HR : Hid (l = m) := alike HL.out fun j hj => hN.out j (by omega)
        clear hN
        go_wp2
        go_ret
        exact ⟨⟨_, rfl, ⟨fun _ => HR.out, fun _ => rfl⟩⟩, q, rfl⟩

set_option maxHeartbeats 1000000 in
set_option maxRecDepth 100000 in
theorem same_differ (x y : Option Addr) (n n' c c2 : Nat) (w : World) (hlen : n ≠ n') :
    Calls Tryd.prog 10 #[.slice x n c, .slice y n' c2] w fun e w' => e = .returned (.bool false) ∧ w = w' := by
  have hd : ((n : Int) == (n' : Int)) = false := beq_false_of_ne (by omega)
  have hd2 : ((n : Int) != (n' : Int)) = true := by unfold bne; rw [hd]; rfl
  have HL := Lib.hid hlen
  clear hlen
  go_enter Tryd.func10, Tryd.ntmps10
  go_wp2
  go_ret
  exact ⟨rfl, rfl⟩
set_option maxHeartbeats 1000000 in
set_option maxRecDepth 100000 in
theorem same_none (x y : Option Addr) (c c2 : Nat) (w : World) :
    Calls Tryd.prog 10 #[.slice x 0 c, .slice y 0 c2] w fun e w' => e = .returned (.bool true) ∧ w = w' := by
  go_enter Tryd.func10, Tryd.ntmps10
  go_wp2
  go_loopw [5] (fun i wr => i = .int .i64 ((0 : Nat) : Int) ∧ wr = w) (fun i _ => 0)
  case atStart => exact ⟨rfl, rfl⟩
  case round =>
    obtain ⟨rfl, rfl⟩ := hrel
    go_wp2
    go_ret
    exact ⟨rfl, rfl⟩
/-- Two lists of tokens: are they one? -/
theorem same_any (v u : Value) (l m : List Bk) (w : World) (hl : l.length ≤ 4611686018427387904) (hv : Lies w v l) (hu : Lies w u m) :
    Calls Tryd.prog 10 #[v, u] w fun e w' => (∃ r, e = .returned (.bool r) ∧ (r = true ↔ l = m)) ∧ ∃ q, w' = w.drewN q := by
  have no : ∀ {x y n n' c c2}, n ≠ n' → l.length = n → m.length = n' → v = .slice x n c → u = .slice y n' c2 → Calls Tryd.prog 10 #[v, u] w fun e w' => (∃ r, e = .returned (.bool r) ∧ (r = true ↔ l = m)) ∧ ∃ q, w' = w.drewN q := by
    intro x y n n' c c2 h1 h2 h3 h4 h5
    subst h4; subst h5
    exact (same_differ x y n n' c c2 w h1).mono fun e w' ⟨he, hw⟩ => ⟨⟨false, he, ⟨fun h => (by cases h), fun h => absurd (by rw [← h2, ← h3, h]) h1⟩⟩, 0, hw.symm⟩
  by_cases hlen : l.length = m.length
  · rcases hv with ⟨rfl, x, c, rfl⟩ | ⟨b, o, c, rfl, h1, h2⟩
    · have hm : m = [] := List.length_eq_zero_iff.1 hlen.symm
      subst hm
      rcases hu with ⟨_, y, c2, rfl⟩ | ⟨b2, o2, c2, rfl, h3, h4⟩
      · exact (same_none x y c c2 w).mono fun e w' ⟨he, hw⟩ => ⟨⟨true, he, by simp⟩, 0, hw.symm⟩
      · exact (same_none x _ c c2 w).mono fun e w' ⟨he, hw⟩ => ⟨⟨true, he, by simp⟩, 0, hw.symm⟩
    · rcases hu with ⟨rfl, y, c2, rfl⟩ | ⟨b2, o2, c2, rfl, h3, h4⟩
      · have hl0 : l = [] := List.length_eq_zero_iff.1 hlen
        subst hl0
        exact (same_none _ y c c2 w).mono fun e w' ⟨he, hw⟩ => ⟨⟨true, he, by simp⟩, 0, hw.symm⟩
      · exact same_some b o c b2 o2 c2 l m w hl h2 h4 hlen
  · rcases hv with ⟨rfl, x, c, rfl⟩ | ⟨b, o, c, rfl, h1, h2⟩ <;> rcases hu with ⟨rfl, y, c2, rfl⟩ | ⟨b2, o2, c2, rfl, h3, h4⟩
    all_goals exact no hlen rfl rfl rfl rfl

end Go.Proofs.YtclcbiiijoeplaaDoor.Rsa
