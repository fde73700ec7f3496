/- words.Words, words.Word and the binary search that it calls; drowseref02.Words, drowseref02.Word. -/
import Derived.Test.YtjmgfhbadnechaaDoorProg
import Derived.Test.YtjmgfhbadnechaaDoorPlo
import Derived.WalkKit
import Derived.WalkLawsBesides
import Derived.KernelRfl
import Derived.Below
import Derived.BigQuiet
import Derived.Deep.QuietTactic
import Derived.Lib.Hide
import Derived.Deep.LoopGhost
import Derived.Deep.Draws
import Derived.Outline
set_option linter.unusedVariables false
namespace Go.Proofs.YtjmgfhbadnechaaDoor.Wrd
open Go.RowKit

/-- The cells of the list of words. -/
def wordCells : Array Value := (Plo.words.map Value.string).toArray

set_option maxHeartbeats 1000000 in
set_option maxRecDepth 100000 in
theorem words_any (w : World) : Calls Tryd.prog 59 #[] w fun e w' => e = .returned (.slice (some ⟨w.heap.size, 0, none⟩) 28 28) ∧ w' = w.alloc (.cells wordCells 9) := by
  go_enter Tryd.func59, Tryd.ntmps59
  go_wp2
  go_ret
  exact ⟨rfl, rfl⟩

/-- A slice of strings reads l. -/
def Strs (w : World) (b : Nat) (l : List ByteArray) : Prop := ∀ j, j < l.length → w.cell? ⟨b, j, none⟩ = some (.string (l.getD j ByteArray.empty))
theorem strs_new (w : World) (l : List ByteArray) (T : TypeId) : Strs (w.alloc (.cells (l.map Value.string).toArray T)) w.heap.size l := by
  intro j hj
  rw [World.cell?_alloc_at _ _ _ _ rfl]
  simp [hj]

theorem isNaN_cmp (x : ByteArray) (w : World) : Calls Tryd.prog 92 #[.string x] w fun e w' => e = .returned (.bool false) ∧ w = w' := by
  go_enter Tryd.func92, Tryd.ntmps92
  go_wp2
  go_ret
  exact ⟨by simp, rfl⟩
theorem isNaN_slices (x : ByteArray) (w : World) : Calls Tryd.prog 79 #[.string x] w fun e w' => e = .returned (.bool false) ∧ w = w' := by
  go_enter Tryd.func79, Tryd.ntmps79
  go_wp2
  go_ret
  exact ⟨by simp, rfl⟩
theorem less_cmp (x y : ByteArray) (w : World) : Calls Tryd.prog 78 #[.string x, .string y] w fun e w' => e = .returned (.bool (Plo.less x y)) ∧ w = w' := by
  go_enter Tryd.func78, Tryd.ntmps78
  go_wp2_with (go_at_call 92; refine (isNaN_cmp _ _).mono ?_; rintro e w' ⟨rfl, rfl⟩)
  go_ret
  exact ⟨rfl, rfl⟩

/-- How a binary search ends. -/
def Found (r : Bool) (w : World) (e : Ending) (w' : World) : Prop := (∃ i : Int, e = .returned (.tuple #[.int .i64 i, .bool r])) ∧ Below w.heap.size w w'
theorem below_drewN (w : World) (n : Nat) : Below w.heap.size w (w.drewN n) := by
  induction n with
  | zero => exact Below.refl _ _
  | succ n ih => rw [← World.drew_drewN]; exact ih.drew

set_option maxHeartbeats 4000000 in
set_option maxRecDepth 100000 in
theorem search (b c : Nat) (l : List ByteArray) (x : ByteArray) (w : World) (hr : Plo.Rises l) (hbig : l.length < 1000) (hc : Strs w b l) (r : Bool) (hrt : x ∈ l → r = true) (hrf : x ∉ l → r = false) :
    Calls Tryd.prog 58 #[.slice (some ⟨b, 0, none⟩) l.length c, .string x] w (Found r w) := by
  go_enter Tryd.func58, Tryd.ntmps58
  go_wp2
  go_loopw [7, 8] (fun s7 s8 wr => ∃ lo hi q : Nat, s7 = .int .i64 lo ∧ s8 = .int .i64 hi ∧ Plo.Bounds l x lo hi ∧ wr = w.drewN q) (fun s7 s8 _ => (intOf s8).toNat - (intOf s7).toNat)
  case atStart => exact ⟨0, l.length, 0, rfl, rfl, Plo.Bounds.start l x, rfl⟩
  case round =>
    obtain ⟨lo, hi, q, rfl, rfl, hB, rfl⟩ := hrel
    have hlh := hB.1
    have hin := hB.2.1
    have HB := Lib.hid hB
    clear hB
    by_cases hlt : lo < hi
    · have cm : w.cell? ⟨b, (lo + hi) / 2, none⟩ = some (.string (l.getD ((lo + hi) / 2) ByteArray.empty)) := hc _ (by omega)
      clear hc
      obtain ⟨y, hy⟩ : ∃ y, l.getD ((lo + hi) / 2) ByteArray.empty = y := ⟨_, rfl⟩
      rw [hy] at cm
      have HY := Lib.hid hy
      clear hy
      cases hyx : Plo.less y x
      · have HX := Lib.hid hyx
        go_wp2_with (first | (go_at_call 78; refine (less_cmp _ _ _).mono ?_; rintro e w' ⟨rfl, rfl⟩) | (go_at_call 79; refine (isNaN_slices _ _).mono ?_; rintro e w' ⟨rfl, rfl⟩))
        go_roundw
        case rel => exact ⟨lo, (lo + hi) / 2, _, rfl, by rw [show ((lo : Int) + (hi : Int)) / 2 = (((lo + hi) / 2 : Nat) : Int) by omega], HB.out.down hr (by omega) (by omega) (by rw [HY.out]; exact HX.out), rfl⟩
        case measure => simp [intOf]; omega
      · have HX := Lib.hid hyx
        go_wp2_with (first | (go_at_call 78; refine (less_cmp _ _ _).mono ?_; rintro e w' ⟨rfl, rfl⟩) | (go_at_call 79; refine (isNaN_slices _ _).mono ?_; rintro e w' ⟨rfl, rfl⟩))
        go_roundw
        case rel => exact ⟨(lo + hi) / 2 + 1, hi, _, by rw [show ((lo : Int) + (hi : Int)) / 2 + 1 = (((lo + hi) / 2 + 1 : Nat) : Int) by omega], rfl, HB.out.up hr (by omega) (by omega) (by rw [HY.out]; exact HX.out), rfl⟩
        case measure => simp [intOf]; omega
    · have : hi = lo := by omega
      subst this
      by_cases hn : hi < l.length
      · have cl : w.cell? ⟨b, hi, none⟩ = some (.string (l.getD hi ByteArray.empty)) := hc _ hn
        clear hc
        obtain ⟨y, hy⟩ : ∃ y, l.getD hi ByteArray.empty = y := ⟨_, rfl⟩
        rw [hy] at cl
        by_cases hyx : y = x
        · have HR : Hid (r = true) := hrt (by rw [← hyx, ← hy]; exact Plo.getD_mem hn)
          subst hyx
          clear hy hrt hrf
          go_wp2_with (go_at_call 79; refine (isNaN_slices _ _).mono ?_; rintro e w' ⟨rfl, rfl⟩)
          go_ret2
          exact ⟨⟨hi, by rw [HR.out]; first | rfl | simp⟩, below_drewN _ _⟩
        · have HR : Hid (r = false) := hrf (HB.out.absent hr rfl (fun _ => by rw [hy]; exact hyx))
          have hne := Plo.toList_ne hyx
          clear hy hyx hrt hrf
          go_wp2_with (go_at_call 79; refine (isNaN_slices _ _).mono ?_; rintro e w' ⟨rfl, rfl⟩)
          all_goals
            go_ret2
            exact ⟨⟨hi, by rw [HR.out]; first | rfl | simp [hne]⟩, below_drewN _ _⟩
      · have HR : Hid (r = false) := hrf (HB.out.absent hr rfl (fun h => absurd h hn))
        clear hc hrt hrf
        go_wp2_with (go_at_call 79; refine (isNaN_slices _ _).mono ?_; rintro e w' ⟨rfl, rfl⟩)
        go_ret2
        exact ⟨⟨hi, by rw [HR.out]; first | rfl | simp⟩, below_drewN _ _⟩

set_option maxHeartbeats 1000000 in
set_option maxRecDepth 100000 in
theorem word_any (x : ByteArray) (w : World) : Calls Tryd.prog 34 #[.string x] w fun e w' => e = .returned (.bool (Plo.isWord x)) ∧ Below w.heap.size w w' := by
  go_enter Tryd.func34, Tryd.ntmps34
  go_wp2_with fail
  refine (words_any w).mono ?_
  rintro e w1 ⟨rfl, rfl⟩
  go_wp2_with fail
  refine (search w.heap.size 28 Plo.words x _ Plo.words_rise (by rw [Plo.words_length]; omega) (strs_new w Plo.words 9) (Plo.isWord x) Plo.isWord_true Plo.isWord_false).mono ?_
  rintro e w2 ⟨⟨i, rfl⟩, hb⟩
  go_wp2
  go_ret
  exact ⟨rfl, ((Below.refl _ w).alloc (Nat.le_refl _) _).trans (hb.mono (by simp))⟩

set_option maxHeartbeats 1000000 in
set_option maxRecDepth 100000 in
theorem rwords_any (w : World) : Calls Tryd.prog 65 #[] w fun e w' => e = .returned (.slice (some ⟨w.heap.size, 0, none⟩) 28 28) ∧ w' = w.alloc (.cells wordCells 9) := by
  go_enter Tryd.func65, Tryd.ntmps65
  go_wp2
  go_ret
  exact ⟨rfl, rfl⟩

set_option maxHeartbeats 2000000 in
set_option maxRecDepth 100000 in
theorem rword_any (x : ByteArray) (w : World) : Calls Tryd.prog 42 #[.string x] w fun e w' => e = .returned (.bool (Plo.isWord x)) ∧ Below w.heap.size w w' := by
  go_enter Tryd.func42, Tryd.ntmps42
  go_wp2_with fail
  refine (rwords_any w).mono ?_
  rintro e w1 ⟨rfl, rfl⟩
  go_wp2
  go_loopw [4] (fun i wr => ∃ k q : Nat, k ≤ 28 ∧ i = .int .i64 k ∧ (∀ j, j < k → Plo.words.getD j ByteArray.empty ≠ x) ∧ wr = (w.alloc (.cells wordCells 9)).drewN q) (fun i _ => 28 - (intOf i).toNat)
  case atStart => exact ⟨0, 0, by omega, rfl, fun j h => by omega, rfl⟩
  case round =>
    obtain ⟨k, q, hk, rfl, hn, rfl⟩ := hrel
    have HN := Lib.hid hn
    clear hn
    by_cases hlt : k < 28
    · have cm := strs_new w Plo.words 9 k (by rw [Plo.words_length]; exact hlt)
      obtain ⟨y, hy⟩ : ∃ y, Plo.words.getD k ByteArray.empty = y := ⟨_, rfl⟩
      rw [hy] at cm
      change (w.alloc (.cells wordCells 9)).cell? _ = _ at cm
      by_cases hyx : y = x
      · have HR : Hid (Plo.isWord x = true) := Plo.isWord_true (by rw [← hyx, ← hy]; exact Plo.getD_mem (by rw [Plo.words_length]; exact hlt))
        subst hyx
        clear hy
        go_wp2
        go_ret
        exact ⟨by rw [HR.out]; rfl, ((Below.refl _ w).alloc (Nat.le_refl _) _).trans ((below_drewN _ q).mono (by simp))⟩
      · have hne := Plo.toList_ne hyx
        have HT : Hid (∀ j, j < k + 1 → Plo.words.getD j ByteArray.empty ≠ x) := by
          intro j hj
          by_cases e : j = k
          · rw [e, hy]; exact hyx
          · exact HN.out j (by omega)
        clear hy hyx HN
        go_wp2
        go_roundw
        case rel => exact ⟨k + 1, q, by omega, by go_num, HT.out, rfl⟩
        case measure => simp [intOf]; omega
    · have HR : Hid (Plo.isWord x = false) := by
        apply Plo.isWord_false
        intro hm
        obtain ⟨j, hj, e⟩ := Plo.mem_getD hm
        rw [Plo.words_length] at hj
        exact HN.out j (by omega) e
      clear HN
      go_wp2
      go_ret
      exact ⟨by rw [HR.out]; rfl, ((Below.refl _ w).alloc (Nat.le_refl _) _).trans ((below_drewN _ q).mono (by simp))⟩
end Go.Proofs.YtjmgfhbadnechaaDoor.Wrd
