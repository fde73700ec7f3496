/- drowselaw03.between, long. -/
import Derived.Test.YtjmgfhbadnechaaDoorLpw
import Derived.Test.YtjmgfhbadnechaaDoorRin
set_option linter.unusedVariables false
namespace Go.Proofs.YtjmgfhbadnechaaDoor.Lqb
open Go.RowKit Wrd Nam Env Num Lxp Lxw Lxr Lxk Lxs Lxj Lrs Lrt Lru Apt Lrv Lrc Lrw Lsa Lsb Lsc Lsd Lse Lss Lsw Lpw

theorem betw_le : ∀ (r : List UInt8) (m : Bool) (n : Nat), Lpp.betw m r = some n → n ≤ r.length
  | [], m, n, h => by
    cases m <;> (simp only [Lpp.betw, Option.some.injEq] at h; omega)
  | c :: r, true, n, h => by
    unfold Lpp.betw at h
    split at h
    · cases h2 : Lpp.betw false r with
      | none => rw [h2] at h; cases h
      | some q =>
        rw [h2] at h
        simp only [Option.map_some, Option.some.injEq] at h
        have := betw_le r _ _ h2
        rw [List.length_cons]; omega
    · have := betw_le r _ _ h
      rw [List.length_cons]; omega
  | c :: r, false, n, h => by
    unfold Lpp.betw at h
    split at h
    · cases h2 : Lpp.betw false r with
      | none => rw [h2] at h; cases h
      | some q =>
        rw [h2] at h
        simp only [Option.map_some, Option.some.injEq] at h
        have := betw_le r _ _ h2
        rw [List.length_cons]; omega
    · split at h
      · have := betw_le r _ _ h
        rw [List.length_cons]; omega
      · split at h
        · have := betw_le r _ _ h
          rw [List.length_cons]; omega
        · cases h
/-- What is left, from place k on, and how many line ends there were. -/
def Left (s : ByteArray) (n : Nat) (m : Bool) (k c : Nat) : Prop := ∃ r, Lpp.betw m (s.data.toList.drop k) = some r ∧ c + r = n
set_option maxHeartbeats 8000000 in
set_option maxRecDepth 100000 in
theorem between_any (s : ByteArray) (n : Nat) (w : World) (hs : s.size ≤ 1048576) (h : Hid (Lpp.betw false s.data.toList = some n)) :
    Calls Tryd.prog 17 #[.string s] w fun e w' => e = .returned (.tuple #[.int .i64 n, .bool true]) ∧ w = w' := by
  have hn : n ≤ 1048576 := by
    have := betw_le _ _ _ h.out
    have e : s.data.toList.length = s.size := rfl
    omega
  have H0 : Hid (Left s n false 0 0) := ⟨n, h.out, by omega⟩
  go_enter Tryd.func17, Tryd.ntmps17
  go_wp2
  go_loopg [4, 5] s.size (fun g l i wr => ∃ k c : Nat, k + g = s.size ∧ l = .int .i64 c ∧ i = .int .i64 k ∧ c ≤ n ∧ Hid (Left s n false k c) ∧ w = wr)
  case atStart => exact ⟨0, 0, by omega, rfl, rfl, by omega, H0, rfl⟩
  case round =>
    obtain ⟨k, c, hk, rfl, rfl, hcn, HL, rfl⟩ := hrel
    clear H0 h
    by_cases hlt : k < s.size
    · have HD := Lib.hid (drop_some hlt)
      cases h10 : ((s[k].toNat : Int) == 10) with
      | true =>
        have HT : Hid (c + 1 ≤ n ∧ Left s n false (k + 1) (c + 1)) := by
          obtain ⟨r, h1, h2⟩ := HL.out
          have e : s[k] = 10 := UInt8.toNat_inj.1 (by have := eq_of_beq h10; show s[k].toNat = 10; omega)
          rw [HD.out, e, Lpp.betw_line] at h1
          cases h3 : Lpp.betw false (s.data.toList.drop (k + 1)) with
          | none => rw [h3] at h1; cases h1
          | some q =>
            rw [h3] at h1
            simp only [Option.map_some, Option.some.injEq] at h1
            exact ⟨by omega, q, h3, by omega⟩
        go_wp2
        go_roundg (gk - 1)
        case rel => exact ⟨k + 1, c + 1, by omega, by go_num, by go_num, HT.out.1, Lib.hid HT.out.2, rfl⟩
        case measure => omega
      | false =>
        have hc10 : Hid (s[k] ≠ 10) := fun e => by rw [e] at h10; exact absurd h10 (by decide)
        cases h47 : ((s[k].toNat : Int) == 47) with
        | true =>
          have e47 : s[k] = 47 := UInt8.toNat_inj.1 (by have := eq_of_beq h47; show s[k].toNat = 47; omega)
          have hnext : Hid (∃ h : k + 1 < s.size, s[k + 1] = 47 ∧ Left s n true (k + 1) c) := by
            obtain ⟨r, h1, h2⟩ := HL.out
            rw [HD.out, e47] at h1
            have hb : Lxn.blank 47 = false := by decide
            unfold Lpp.betw at h1
            rw [if_neg (by decide)] at h1
            split at h1
            · rename_i hh
              have hk1 : k + 1 < s.size := by
                rcases Nat.lt_or_ge (k + 1) s.size with h | h
                · exact h
                · rw [drop_none (by omega)] at hh; exact absurd hh.2 (by simp)
              refine ⟨hk1, ?_, r, h1, h2⟩
              have := hh.2
              rw [drop_some hk1, List.head?_cons, Option.some.injEq] at this
              exact this
            · rw [hb, if_neg (by decide)] at h1; cases h1
          obtain ⟨hk1, e1, hL1⟩ := hnext.out
          have h47' : ((s[k + 1].toNat : Int) == 47) = true := by rw [e1]; decide
          have HL1 := Lib.hid hL1
          clear hnext e1 hL1 e47
          go_wp2_with fail
          go_loopw [5] (fun i wr => ∃ j : Nat, j < s.size ∧ k ≤ j ∧ i = .int .i64 j ∧ Hid (Left s n true (j + 1) c) ∧ w = wr) (fun i _ => s.size - (intOf i).toNat)
          case atStart => exact ⟨k, by omega, by omega, rfl, HL1, rfl⟩
          case round =>
            obtain ⟨j, hj, hkj, rfl, HJ, rfl⟩ := hrel
            clear h10 h47 h47' HL1
            by_cases hj1 : j + 1 < s.size
            · cases hx : ((s[j + 1].toNat : Int) == 10) with
              | true =>
                have hx' : ((s[j + 1].toNat : Int) != 10) = false := by unfold bne; rw [hx]; rfl
                have HF : Hid (Left s n false (j + 1) c) := by
                  obtain ⟨r, h1, h2⟩ := HJ.out
                  have e : s[j + 1] = 10 := UInt8.toNat_inj.1 (by have := eq_of_beq hx; show s[j + 1].toNat = 10; omega)
                  rw [drop_some hj1, e, Lpp.betw_line, ← Lpp.betw_line false] at h1
                  refine ⟨r, ?_, h2⟩
                  rw [drop_some hj1, e]; exact h1
                go_wp2
                go_roundg (s.size - (j + 1))
                case rel => exact ⟨j + 1, c, by omega, rfl, by go_num, hcn, HF, rfl⟩
                case measure => omega
              | false =>
                have hx' : ((s[j + 1].toNat : Int) != 10) = true := by unfold bne; rw [hx]; rfl
                have HF : Hid (Left s n true (j + 1 + 1) c) := by
                  obtain ⟨r, h1, h2⟩ := HJ.out
                  rw [drop_some hj1, Lpp.betw_in (fun e => by rw [e] at hx; exact absurd hx (by decide))] at h1
                  exact ⟨r, h1, h2⟩
                go_wp2
                go_roundw
                case rel => exact ⟨j + 1, by omega, by omega, by go_num, HF, trivial⟩
                case measure => simp [intOf]; omega
            · have HF : Hid (Left s n false (j + 1) c) := by
                obtain ⟨r, h1, h2⟩ := HJ.out
                rw [drop_none hj1] at h1
                exact ⟨r, by rw [drop_none hj1]; exact h1, h2⟩
              go_wp2
              go_roundg (s.size - (j + 1))
              case rel => exact ⟨j + 1, c, by omega, rfl, by go_num, hcn, HF, rfl⟩
              case measure => omega
        | false =>
          have hc47 : s[k] ≠ 47 := fun e => by rw [e] at h47; exact absurd h47 (by decide)
          have HT : Hid (Lxn.blank s[k] = true ∧ Left s n false (k + 1) c) := by
            obtain ⟨r, h1, h2⟩ := HL.out
            rw [HD.out] at h1
            unfold Lpp.betw at h1
            rw [if_neg hc10.out, if_neg (fun h => hc47 h.1)] at h1
            split at h1
            · rename_i hb; exact ⟨hb, r, h1, h2⟩
            · cases h1
          clear hc47
          have hbl : ((s[k].toNat : Int) != 32) = false ∨ ((s[k].toNat : Int) != 32) = true ∧ (((s[k].toNat : Int) != 9) = false ∨ ((s[k].toNat : Int) != 9) = true ∧ ((s[k].toNat : Int) != 13) = false) := by
            have hb := HT.out.1
            simp only [Lxn.blank, Bool.or_eq_true, beq_iff_eq] at hb
            rcases hb with (hb | hb) | hb
            · rw [hb]; decide
            · rw [hb]; decide
            · rw [hb]; decide
          rcases hbl with g1 | ⟨g1, g2 | ⟨g2, g3⟩⟩
          all_goals
            go_wp2
            go_roundg (gk - 1)
            case rel => exact ⟨k + 1, c, by omega, rfl, by go_num, hcn, Lib.hid HT.out.2, rfl⟩
            case measure => omega
    · have HR : Hid (c = n) := by
        obtain ⟨r, h1, h2⟩ := HL.out
        rw [drop_none hlt] at h1
        simp only [Lpp.betw, Option.some.injEq] at h1
        show c = n
        omega
      go_wp2
      go_ret2
      have e := HR.out
      exact ⟨by rw [e]; rfl, rfl⟩
end Go.Proofs.YtjmgfhbadnechaaDoor.Lqb
