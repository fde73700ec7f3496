/- drowseref03.comment, run, calls. -/
import Derived.Test.YtjmgfhbadnechaaDoorLxn
import Derived.Test.YtjmgfhbadnechaaDoorLxr
set_option linter.unusedVariables false
namespace Go.Proofs.YtjmgfhbadnechaaDoor.Lrs
open Go.RowKit Wrd Nam Lxp Lxw Lxr

theorem drop_at (s : ByteArray) (k : Nat) (h : k < s.size) : s.data.toList.drop k = s[k] :: s.data.toList.drop (k + 1) := by
  rw [List.drop_eq_getElem_cons (by exact h)]
  rfl
theorem run_go {c : UInt8} {r : List UInt8} (h : alnum c = true) : Lxn.run (c :: r) = Lxn.run r + 1 := by
  unfold Lxn.run; rw [List.takeWhile_cons, if_pos h]; rfl
theorem run_stop {c : UInt8} {r : List UInt8} (h : alnum c = false) : Lxn.run (c :: r) = 0 := by
  unfold Lxn.run; rw [List.takeWhile_cons, if_neg (by rw [h]; decide)]; rfl
set_option maxHeartbeats 1000000 in
set_option maxRecDepth 100000 in
theorem run_any (s : ByteArray) (p : Nat) (w : World) (hp : p ≤ s.size) (hs : s.size ≤ 1048576) :
    Calls Tryd.prog 66 #[.string s, .int .i64 p] w fun e w' => e = .returned (.int .i64 (Lxn.run (s.data.toList.drop p) : Nat)) ∧ w = w' := by
  go_enter Tryd.func66, Tryd.ntmps66
  go_wp2
  go_loopw [5] (fun i wr => ∃ k : Nat, p + k ≤ s.size ∧ i = .int .i64 k ∧ wr = w ∧ Hid (Lxn.run (s.data.toList.drop p) = k + Lxn.run (s.data.toList.drop (p + k)))) (fun i _ => s.size - (intOf i).toNat)
  case atStart => exact ⟨0, by omega, rfl, rfl, by show _ = _; simp⟩
  case round =>
    obtain ⟨k, hk, rfl, rfl, hN⟩ := hrel
    by_cases hlt : p + k < s.size
    · have hd := drop_at s (p + k) hlt
      cases ha : alnum s[p + k] with
      | true =>
        have HT : Hid (Lxn.run (s.data.toList.drop p) = (k + 1) + Lxn.run (s.data.toList.drop (p + (k + 1)))) := by
          show _ = _
          rw [hN.out, hd, run_go ha, ← Nat.add_assoc p k 1]; omega
        cases hl : letter s[p + k] with
        | true =>
          clear hd ha hN
          have HL := Lib.hid hl
          clear hl
          go_wp2_with fail
          refine (rletter_is _ true _ HL.out).mono ?_
          rintro e w1 ⟨rfl, rfl⟩
          go_wp2_with fail
          refine (rdigit _ _).mono ?_
          rintro e w1 ⟨rfl, rfl⟩
          go_wp2
          go_roundw
          case rel => exact ⟨k + 1, by omega, by go_num, trivial, HT⟩
          case measure => simp [intOf]; omega
        | false =>
          have HDg : Hid (digit s[p + k] = true) := by
            unfold alnum at ha; rw [hl] at ha; exact ha
          clear hd ha hN
          have HL := Lib.hid hl
          clear hl
          go_wp2_with fail
          refine (rletter_is _ false _ HL.out).mono ?_
          rintro e w1 ⟨rfl, rfl⟩
          go_wp2_with fail
          refine (rdigit_is _ true _ HDg.out).mono ?_
          rintro e w1 ⟨rfl, rfl⟩
          go_wp2
          go_roundw
          case rel => exact ⟨k + 1, by omega, by go_num, trivial, HT⟩
          case measure => simp [intOf]; omega
      | false =>
        have HR : Hid (Lxn.run (s.data.toList.drop p) = k) := by
          show _ = _
          rw [hN.out, hd, run_stop ha]; rfl
        have HL : Hid (letter s[p + k] = false ∧ digit s[p + k] = false) := by
          unfold alnum at ha; exact Bool.or_eq_false_iff.1 ha
        clear hd ha hN
        go_wp2_with fail
        refine (rletter_is _ false _ HL.out.1).mono ?_
        rintro e w1 ⟨rfl, rfl⟩
        go_wp2_with fail
        refine (rdigit_is _ false _ HL.out.2).mono ?_
        rintro e w1 ⟨rfl, rfl⟩
        go_wp2
        go_ret
        exact ⟨by rw [HR.out]; rfl, rfl⟩
    · have HR : Hid (Lxn.run (s.data.toList.drop p) = k) := by
        show _ = _
        rw [hN.out, List.drop_eq_nil_of_le (by show s.size ≤ _; omega)]; rfl
      clear hN
      go_wp2
      go_ret
      exact ⟨by rw [HR.out]; rfl, rfl⟩
theorem run_is (s : ByteArray) (p n : Nat) (w : World) (hp : p ≤ s.size) (hs : s.size ≤ 1048576) (h : Lxn.run (s.data.toList.drop p) = n) :
    Calls Tryd.prog 66 #[.string s, .int .i64 p] w fun e w' => e = .returned (.int .i64 n) ∧ w = w' := by
  subst h; exact run_any s p w hp hs

theorem comment_no {c : UInt8} {r : List UInt8} (h : c ≠ 47) : Lxn.comment (c :: r) = 0 := by
  unfold Lxn.comment
  split
  · rename_i e; cases e; exact absurd rfl h
  · rfl
theorem comment_no2 {c d : UInt8} {r : List UInt8} (h : d ≠ 47) : Lxn.comment (c :: d :: r) = 0 := by
  unfold Lxn.comment
  split
  · rename_i e; cases e; exact absurd rfl h
  · rfl
theorem comment_one {c : UInt8} : Lxn.comment [c] = 0 := by
  unfold Lxn.comment
  split
  · rename_i e; cases e
  · rfl
/-- How many bytes stand before a line's end. -/
def upto (r : List UInt8) : Nat := (r.takeWhile (· != 10)).length
theorem comment_yes {r : List UInt8} : Lxn.comment (47 :: 47 :: r) = upto (47 :: 47 :: r) := rfl
theorem upto_go {c : UInt8} {r : List UInt8} (h : c ≠ 10) : upto (c :: r) = upto r + 1 := by
  unfold upto; rw [List.takeWhile_cons, if_pos (by simpa using h)]; rfl
theorem upto_stop {r : List UInt8} : upto (10 :: r) = 0 := rfl
set_option maxHeartbeats 1000000 in
set_option maxRecDepth 100000 in
theorem comment_any (s : ByteArray) (p : Nat) (w : World) (hp : p < s.size) (hs : s.size ≤ 1048576) :
    Calls Tryd.prog 23 #[.string s, .int .i64 p] w fun e w' => e = .returned (.int .i64 (Lxn.comment (s.data.toList.drop p) : Nat)) ∧ w = w' := by
  have hd := drop_at s p hp
  by_cases h1 : p + 1 < s.size
  · cases h0 : ((s[p].toNat : Int) == 47) with
    | false =>
      have h0' : ((s[p].toNat : Int) != 47) = true := by unfold bne; rw [h0]; rfl
      have HR : Hid (Lxn.comment (s.data.toList.drop p) = 0) := by
        show _ = _
        rw [hd]; exact comment_no (fun e => by rw [e] at h0; exact absurd h0 (by decide))
      clear hd
      go_enter Tryd.func23, Tryd.ntmps23
      go_wp2
      go_ret
      exact ⟨by rw [HR.out]; rfl, rfl⟩
    | true =>
      have h0' : ((s[p].toNat : Int) != 47) = false := by unfold bne; rw [h0]; rfl
      have e0 : s[p] = 47 := UInt8.toNat_inj.1 (by have := eq_of_beq h0; show s[p].toNat = 47; omega)
      have hd1 := drop_at s (p + 1) h1
      cases h2 : ((s[p + 1].toNat : Int) == 47) with
      | false =>
        have h2' : ((s[p + 1].toNat : Int) != 47) = true := by unfold bne; rw [h2]; rfl
        have HR : Hid (Lxn.comment (s.data.toList.drop p) = 0) := by
          show _ = _
          rw [hd, hd1]; exact comment_no2 (fun e => by rw [e] at h2; exact absurd h2 (by decide))
        clear hd hd1 e0
        go_enter Tryd.func23, Tryd.ntmps23
        go_wp2
        go_ret
        exact ⟨by rw [HR.out]; rfl, rfl⟩
      | true =>
        have h2' : ((s[p + 1].toNat : Int) != 47) = false := by unfold bne; rw [h2]; rfl
        have e1 : s[p + 1] = 47 := UInt8.toNat_inj.1 (by have := eq_of_beq h2; show s[p + 1].toNat = 47; omega)
        have HR : Hid (Lxn.comment (s.data.toList.drop p) = upto (s.data.toList.drop p)) := by
          show _ = _
          rw [hd, hd1, e0, e1]; exact comment_yes
        clear hd hd1 e0 e1
        go_enter Tryd.func23, Tryd.ntmps23
        go_wp2
        go_loopw [5] (fun i wr => ∃ k : Nat, p + k ≤ s.size ∧ i = .int .i64 k ∧ wr = w ∧ Hid (upto (s.data.toList.drop p) = k + upto (s.data.toList.drop (p + k)))) (fun i _ => s.size - (intOf i).toNat)
        case atStart => exact ⟨0, by omega, rfl, rfl, by show _ = _; simp⟩
        case round =>
          obtain ⟨k, hk, rfl, rfl, hN⟩ := hrel
          clear h0 h0' h2 h2'
          by_cases hlt : p + k < s.size
          · have hd := drop_at s (p + k) hlt
            cases h10 : ((s[p + k].toNat : Int) == 10) with
            | true =>
              have h10' : ((s[p + k].toNat : Int) != 10) = false := by unfold bne; rw [h10]; rfl
              have e10 : s[p + k] = 10 := UInt8.toNat_inj.1 (by have := eq_of_beq h10; show s[p + k].toNat = 10; omega)
              have HR2 : Hid (Lxn.comment (s.data.toList.drop p) = k) := by
                show _ = _
                rw [HR.out, hN.out, hd, e10, upto_stop]; rfl
              clear hd e10 HR hN
              go_wp2
              go_ret
              exact ⟨by rw [HR2.out]; rfl, rfl⟩
            | false =>
              have h10' : ((s[p + k].toNat : Int) != 10) = true := by unfold bne; rw [h10]; rfl
              have HT : Hid (upto (s.data.toList.drop p) = (k + 1) + upto (s.data.toList.drop (p + (k + 1)))) := by
                show _ = _
                rw [hN.out, hd, upto_go (fun e => by rw [e] at h10; exact absurd h10 (by decide)), ← Nat.add_assoc p k 1]; omega
              clear hd hN
              go_wp2
              go_roundw
              case rel => exact ⟨k + 1, by omega, by go_num, trivial, HT⟩
              case measure => simp [intOf]; omega
          · have HR2 : Hid (Lxn.comment (s.data.toList.drop p) = k) := by
              show _ = _
              rw [HR.out, hN.out, List.drop_eq_nil_of_le (by show s.size ≤ _; omega)]; rfl
            clear HR hN
            go_wp2
            go_ret
            exact ⟨by rw [HR2.out]; rfl, rfl⟩
  · have hd1 : s.data.toList.drop (p + 1) = [] := List.drop_eq_nil_of_le (by show s.size ≤ _; omega)
    have HR : Hid (Lxn.comment (s.data.toList.drop p) = 0) := by
      show _ = _
      rw [hd, hd1]; exact comment_one
    clear hd hd1
    go_enter Tryd.func23, Tryd.ntmps23
    go_wp2
    go_ret
    exact ⟨by rw [HR.out]; rfl, rfl⟩
end Go.Proofs.YtjmgfhbadnechaaDoor.Lrs
