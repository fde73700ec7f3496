/- drowseref10.Table.Take. -/
import Derived.Test.YtijlnlcjlkanaaaSug
set_option linter.unusedVariables false
namespace Go.Proofs.Ytijlnlcjlkanaaa.Suh
open Go.RowKit Rwo Sta Stb Stc Stg Ste Stl Stn Sue Suf Sug

/-- Stands it in slot s? -/
def inSlot (s : Nat) (t : Th) : Bool := t.h.slot == s
/-- Does one live in slot s? -/
def usedBy (s : Nat) (t : Th) : Bool := inSlot s t && here t
def taken (R : List Th) (s : Nat) : Nat := R.countP (inSlot s)
def used (R : List Th) (s : Nat) : Bool := R.any (usedBy s)
theorem taken_succ {R : List Th} {s k : Nat} {t : Th} (hk : k < R.length) (ht : R.getD k th0 = t) : taken (R.take (k + 1)) s = taken (R.take k) s + (if inSlot s t then 1 else 0) ∧ used (R.take (k + 1)) s = (used (R.take k) s || usedBy s t) := by
  unfold taken used
  rw [List.take_succ_eq_append_getElem hk, List.countP_append, List.any_append, ← ht, List.getD_eq_getElem?_getD, List.getElem?_eq_getElem hk]
  simp
theorem taken_le (R : List Th) (s k : Nat) : taken (R.take k) s ≤ k := by
  unfold taken
  have h1 := List.countP_le_length (p := inSlot s) (l := R.take k)
  have h2 := List.length_take_le k R
  omega
theorem slot_no {s : Nat} {t : Th} (h : ((t.h.slot : Int) == (s : Int)) = false) : inSlot s t = false := by
  unfold inSlot
  rw [beq_eq_false_iff_ne] at h ⊢
  omega
theorem slot_yes {s : Nat} {t : Th} (h : ((t.h.slot : Int) == (s : Int)) = true) : inSlot s t = true := by
  unfold inSlot
  rw [beq_iff_eq] at h ⊢
  omega
set_option maxHeartbeats 8000000 in
set_option maxRecDepth 100000 in
theorem rtake_no (g : Nat) (vr : Value) (R : List Th) (most : Nat) (x : Int) (w : World) (h : Hid (RefAt g vr R most w)) (hn : R.length ≤ 1000000) (hm : most ≤ 500) (hu : Hid (∀ s, 1 ≤ s → s ≤ most → used R s = true)) (hsl : Hid (∀ t ∈ R, t.h.slot ≤ 1000000)) :
    Calls Try.prog 40 #[.pointer (some ⟨g, 0, none⟩), .int .i64 x] w fun e w' => e = .returned (.tuple #[.agg #[.int .u32 0, .int .u32 0], .bool false]) ∧ Below w.heap.size w w' := by
  have hb0 := below_new w (.cells #[.int .u32 0, .int .u32 0] 33)
  have hr0 := heap_alloc_new w (.cells #[.int .u32 0, .int .u32 0] 33)
  obtain ⟨W0, hW0⟩ : ∃ W0, W0 = w.alloc (.cells #[.int .u32 0, .int .u32 0] 33) := ⟨_, rfl⟩
  rw [← hW0] at hb0 hr0
  have HR := Lib.hid (h.out.below hb0)
  obtain ⟨⟨c0, c1⟩, _⟩ := HR.out.cells
  obtain ⟨A1, k1, rfl⟩ := Own.shape HR.out.all
  have HB := Lib.hid hb0
  have HR0 := Lib.hid hr0
  clear hb0 hr0
  go_enter Try.func40, Try.ntmps40
  go_wp2_with fail
  rw [← hW0]
  clear hW0
  go_loopw [6] (fun sv wx => ∃ s : Nat, 1 ≤ s ∧ s ≤ most + 1 ∧ sv = .int .i64 s ∧ W0 = wx) (fun sv _ => most + 1 - (intOf sv).toNat)
  case atStart => exact ⟨1, Nat.le_refl _, by omega, rfl, rfl⟩
  case round =>
    obtain ⟨s, hs1, hs2, rfl, rfl⟩ := hrel
    by_cases hsm : s ≤ most
    · have hus := hu.out s hs1 hsm
      have HU := Lib.hid hus
      clear hus
      go_wp2_with fail
      go_loopw [7, 8, 9] (fun gv uv iv wx => ∃ k : Nat, k ≤ R.length ∧ iv = .int .i64 k ∧ (∃ c : Nat, gv = .int .i64 c ∧ Hid (1 + taken (R.take k) s = c) ∧ c ≤ k + 1) ∧ (∃ b : Bool, uv = .bool b ∧ Hid (used (R.take k) s = b)) ∧ W0 = wx) (fun _ _ iv _ => R.length - (intOf iv).toNat)
      case atStart => exact ⟨0, Nat.zero_le _, rfl, ⟨1, rfl, rfl, by omega⟩, ⟨false, rfl, rfl⟩, rfl⟩
      case round =>
        obtain ⟨k, hk, rfl, ⟨c, rfl, HC, hc⟩, ⟨b, rfl, HBB⟩, rfl⟩ := hrel
        by_cases hkl : k < R.length
        · obtain ⟨br, cr, _, hv, _, _, hbr, _⟩ := Own.some HR.out.all (by intro e; rw [e, List.length_nil] at hkl; omega)
          simp only [Value.slice.injEq] at hv
          obtain ⟨rfl, _, rfl⟩ := hv
          obtain ⟨t, ht⟩ : ∃ t, R.getD k th0 = t := ⟨_, rfl⟩
          obtain ⟨d0, _, _, d3⟩ := th_cells HR.out.all k hkl ht
          have hts : t.h.slot ≤ 1000000 := hsl.out t (by rw [← ht]; exact getD_mem hkl)
          obtain ⟨n1, n2⟩ := taken_succ (s := s) hkl ht
          have N1 := Lib.hid n1
          have N2 := Lib.hid n2
          clear n1 n2 ht
          cases e1 : ((t.h.slot : Int) == (s : Int)) with
          | false =>
            have M1 : Hid (1 + taken (R.take (k + 1)) s = c) := by have := N1.out; rw [slot_no e1] at this; have h2 := HC.out; simp at this; show 1 + taken (R.take (k + 1)) s = c; rw [this]; exact h2
            have M2 : Hid (used (R.take (k + 1)) s = b) := by have := N2.out; unfold usedBy at this; rw [slot_no e1, HBB.out] at this; exact (by simpa using this : _ = _)
            clear N1 N2
            go_wp2
            go_roundw
            case rel => exact ⟨k + 1, by omega, by go_num, ⟨c, rfl, M1.out, by omega⟩, ⟨b, rfl, M2.out⟩, trivial⟩
            case measure => simp [intOf]; omega
          | true =>
            have M1 : Hid (1 + taken (R.take (k + 1)) s = c + 1) := by have := N1.out; rw [slot_yes e1] at this; have h2 := HC.out; simp at this; show 1 + taken (R.take (k + 1)) s = c + 1; rw [this, ← Nat.add_assoc]; exact congrArg (· + 1) h2
            cases b with
            | true =>
              have M2 : Hid (used (R.take (k + 1)) s = true) := by have := N2.out; rw [HBB.out] at this; exact (by simpa using this : _ = _)
              clear N1 N2
              go_wp2
              go_roundw
              case rel => exact ⟨k + 1, by omega, by go_num, ⟨c + 1, by go_num, M1.out, by omega⟩, ⟨true, rfl, M2.out⟩, trivial⟩
              case measure => simp [intOf]; omega
            | false =>
              obtain ⟨q, hq⟩ : ∃ q, t.gone = q := ⟨_, rfl⟩
              have M2 : Hid (used (R.take (k + 1)) s = !q) := by have := N2.out; unfold usedBy here at this; rw [slot_yes e1, HBB.out, hq] at this; exact (by simpa using this : _ = _)
              rw [hq] at d3
              clear N1 N2 hq
              go_wp2
              go_roundw
              case rel => exact ⟨k + 1, by omega, by go_num, ⟨c + 1, by go_num, M1.out, by omega⟩, ⟨!q, rfl, M2.out⟩, trivial⟩
              case measure => simp [intOf]; omega
        · have hbt : b = true := by
            have h1 := HBB.out
            rw [List.take_of_length_le (by omega), HU.out] at h1
            exact h1.symm
          subst hbt
          clear HBB
          go_wp2
          go_roundw
          case rel => exact ⟨s + 1, by omega, by omega, by go_num, trivial⟩
          case measure => simp [intOf]; omega
    · obtain ⟨r0, r1, q0, q1⟩ := hd_cells HR0.out
      go_wp2
      refine bodyPost_ret (hd_results rfl _ _ w.heap.size #[.int .u32 0, .int .u32 0] rfl (heap_setCell_same _ w.heap.size 1 #[.int .u32 0, .int .u32 0] _ _ (heap_setCell_same _ w.heap.size 0 #[.int .u32 0, .int .u32 0] _ _ HR0.out)) rfl) rfl ?_
      exact ⟨rfl, (HB.out.setCell (p := ⟨w.heap.size, 0, none⟩) (Nat.le_refl _) _).setCell (p := ⟨w.heap.size, 1, none⟩) (Nat.le_refl _) _⟩
end Go.Proofs.Ytijlnlcjlkanaaa.Suh
