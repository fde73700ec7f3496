/- report.number. -/
import Derived.Test.YtclcbiiijoeplaaDoorRnp
import Derived.Laws.RangeString
import Derived.Laws.RangeAny
import Derived.WalkKit
import Derived.WalkSmall
import Derived.Lib.Hide
import Derived.Outline
import Derived.Lib.Bytes
set_option linter.unusedVariables false
namespace Go.Proofs.YtclcbiiijoeplaaDoor.Rnm
open Go.RowKit Rpl Rwd Rmy Rln Rfd Rnb Rpp Rpt Rnp

def Post (s : ByteArray) (low : Int) (w : World) (e : Ending) (w' : World) : Prop := ∃ n ok, e = .returned (.tuple #[.int .i64 n, .bool ok]) ∧ Num s low n ok ∧ Below w.heap.size w w'
theorem val_lim {l : List UInt8} {c : UInt8} (h : val l ≤ 214748364) (hc : 48 ≤ c.toNat ∧ c.toNat ≤ 57) : val (l ++ [c]) ≤ 2147483649 := by rw [val_snoc]; omega
set_option maxHeartbeats 4000000 in
set_option maxRecDepth 100000 in
theorem number_any (s : ByteArray) (low : Int) (w : World) (h0 : 0 ≤ low) (hl2 : low ≤ 1) (hs : s.size ≤ 4611686018427387904) :
    Calls Tryd.prog 47 #[.string s, .int .i64 low] w (Post s low w) := by
  have hlen := list_size s
  by_cases hz : s.size < 1
  · have HN := Lib.hid (num_empty (n := 0) h0 hz)
    have hemp : s.toList = [] := by rw [Lib.toList_data]; exact List.length_eq_zero_iff.1 (by omega)
    go_enter Tryd.func47, Tryd.ntmps47
    go_wp2
    go_ret2
    exact ⟨0, false, rfl, HN.out, Below.refl _ _⟩
  have hemp : s.toList.isEmpty = false := by
    rw [Lib.toList_data]
    cases h : s.data.toList with
    | nil => rw [h] at hlen; simp at hlen; omega
    | cons => rfl
  have hpos : 0 < s.size := by omega
  have hpos2 : (0 : Int) < (s.size : Int) := by omega
  obtain ⟨c0, hc0⟩ : ∃ c, (s[0]'hpos).toNat = c := ⟨_, rfl⟩
  have hhead : s.data.toList.head? = some (s[0]'hpos) := by
    rw [List.head?_eq_getElem?, List.getElem?_eq_getElem (by omega)]; rfl
  have hz0 : Hid (c0 = 48 → s.data.toList = [48]) ∨ (c0 = 48 ∧ (s.toList == [48]) = false ∧ (!(s.toList == [48])) = true) := by
    by_cases h48 : c0 = 48
    · cases hone : (s.toList == [48]) with
      | false => exact .inr ⟨h48, rfl, rfl⟩
      | true => refine .inl fun _ => ?_; rw [← Lib.toList_data]; simpa using hone
    · exact .inl fun h => absurd h h48
  rcases hz0 with hz0 | ⟨h48, hone, hq⟩
  rotate_left
  · have HN : Hid (Num s low 0 false) := by
      refine num_zero h0 (by rw [hhead]; congr 1; exact UInt8.toNat_inj.1 (by rw [hc0, h48]; rfl)) ?_
      intro e
      rw [Lib.toList_data, e] at hone
      simp at hone
    clear hhead
    go_enter Tryd.func47, Tryd.ntmps47
    go_wp2
    go_ret2
    exact ⟨0, false, rfl, HN.out, Below.refl _ _⟩
  have hz1 : Hid (s.data.toList.head? = some 48 → s.data.toList = [48]) := fun h => hz0.out (by
    rw [hhead] at h
    simp only [Option.some.injEq] at h
    rw [← hc0, h]; rfl)
  have hz2 : c0 ≠ 48 ∨ (c0 = 48 ∧ (s.toList == [48]) = true ∧ (!(s.toList == [48])) = false) := by
    by_cases h48 : c0 = 48
    · have : (s.toList == [48]) = true := by rw [Lib.toList_data, hz0.out h48]; rfl
      exact .inr ⟨h48, this, by rw [this]; rfl⟩
    · exact .inl h48
  clear hz0 hhead
  rcases hz2 with h48 | ⟨h48, hone, hq⟩
  all_goals
    go_enter Tryd.func47, Tryd.ntmps47
    go_wp2
    go_loopw [6] (fun nv wr => ∃ k m : Nat, k ≤ s.size ∧ nv = .int .i64 m ∧ wr = w.iter s k ∧ Hid (digs (s.data.toList.take k) ∧ m = val (s.data.toList.take k)) ∧ m ≤ 2147483649) (fun _ wr => s.size - wr.iterPos w.heap.size)
    case atStart => exact ⟨0, 0, Nat.zero_le _, rfl, rfl, ⟨fun c hc => absurd hc (by simp), rfl⟩, by omega⟩
    case round =>
      obtain ⟨k, m, hk, rfl, rfl, HF, hm⟩ := hrel
      by_cases hlt : k < s.size
      · have hl : k < s.data.toList.length := by omega
        have htk : s.data.toList.take (k + 1) = s.data.toList.take k ++ [s[k]] := by
          rw [List.take_add_one, List.getElem?_eq_getElem hl]; rfl
        obtain ⟨d, hd⟩ : ∃ d, (s[k]).toNat = d := ⟨_, rfl⟩
        obtain ⟨cr, wd', hdec⟩ : ∃ cr wd', Utf8.decode s k = (cr, wd') := ⟨_, _, rfl⟩
        have hcr : d < 128 ∧ cr = d ∧ wd' = 1 ∨ 128 ≤ d ∧ 128 ≤ cr ∧ 1 ≤ wd' := by
          by_cases h128 : d < 128
          · have := decode_ascii s k hlt (by omega)
            rw [hdec] at this
            simp only [Prod.mk.injEq] at this
            exact .inl ⟨h128, by omega, this.2⟩
          · have := decode_high s k hlt (by omega)
            rw [hdec] at this
            exact .inr ⟨by omega, this.1, this.2⟩
        have hnx : ∀ ty, (Instr.next (.pointer (some ⟨w.heap.size, 0, none⟩)) true ty).run Tryd.prog (w.iter s k) = .ok (.tuple #[.bool true, .int .i64 k, .int .i32 cr]) (w.iter s (k + wd')) := fun ty => by
          have := run_next_any (P := Tryd.prog) w s k ty hlt
          rw [hdec] at this; exact this
        clear hdec
        by_cases hdig : 48 ≤ d ∧ d ≤ 57
        · obtain ⟨rfl, rfl⟩ : cr = d ∧ wd' = 1 := by omega
          obtain ⟨hd1, hd2⟩ := hdig
          by_cases hbig : 214748364 < m
          · have HN : Hid (Num s low 0 false) := num_big h0 hl (by rw [← HF.out.2]; exact hbig)
            clear HF htk hcr
            go_wp2
            go_ret2
            exact ⟨0, false, rfl, HN.out, (Below.refl _ w).alloc (Nat.le_refl _) _⟩
          · have HN : Hid (digs (s.data.toList.take (k + 1)) ∧ 10 * m + (cr - 48) = val (s.data.toList.take (k + 1))) := by
              rw [htk]
              exact ⟨digs_snoc HF.out.1 (by rw [hd]; exact ⟨hd1, hd2⟩), by rw [val_snoc, ← HF.out.2, hd]⟩
            clear HF htk hcr
            go_wp2
            go_roundw
            case rel => exact ⟨k + 1, 10 * m + (cr - 48), by omega, by go_num, rfl, HN, by omega⟩
            case measure => simp; omega
        · have HN : Hid (Num s low 0 false) := num_odd h0 hl (by
            have e : s.data.toList[k] = s[k] := rfl
            rw [e, hd]; exact hdig)
          clear HF htk
          by_cases h1 : (cr : Int) < 48
          · clear hcr hdig
            go_wp2
            go_ret2
            exact ⟨0, false, rfl, HN.out, (Below.refl _ w).alloc (Nat.le_refl _) _⟩
          · have h2 : (57 : Int) < cr := by omega
            clear hcr hdig
            go_wp2
            go_ret2
            exact ⟨0, false, rfl, HN.out, (Below.refl _ w).alloc (Nat.le_refl _) _⟩
      · have hnx : ∀ ty, (Instr.next (.pointer (some ⟨w.heap.size, 0, none⟩)) true ty).run Tryd.prog (w.iter s k) = _ := fun ty => run_next_end w s k ty hlt
        have HN : Hid (Num s low m (decide (low ≤ (m : Int)) && decide ((m : Int) ≤ 2147483647))) := by
          have hf := HF.out
          rw [show k = s.data.toList.length by omega, List.take_length] at hf
          rw [hf.2]
          exact num_end h0 (by intro e; have := congrArg List.length e; rw [hlen, List.length_nil] at this; omega) hf.1 hz1.out
        clear HF
        by_cases hlo : low ≤ (m : Int)
        · by_cases hhi : (m : Int) ≤ 2147483647
          · go_wp2
            go_ret2
            refine ⟨m, true, rfl, ?_, (Below.refl _ w).alloc (Nat.le_refl _) _⟩
            have := HN.out
            simp only [hlo, hhi, decide_true, Bool.and_true] at this
            exact this
          · go_wp2
            go_ret2
            refine ⟨m, false, rfl, ?_, (Below.refl _ w).alloc (Nat.le_refl _) _⟩
            have := HN.out
            rw [decide_eq_false (show ¬ (m : Int) ≤ 2147483647 by omega), Bool.and_false] at this
            exact this
        · go_wp2
          go_ret2
          refine ⟨m, false, rfl, ?_, (Below.refl _ w).alloc (Nat.le_refl _) _⟩
          have := HN.out
          rw [decide_eq_false (show ¬ low ≤ (m : Int) by omega), Bool.false_and] at this
          exact this
end Go.Proofs.YtclcbiiijoeplaaDoor.Rnm
