/- The walk of LexScans. -/
import Derived.Test.YtjmgfhbadnechaaDoorLss
set_option linter.unusedVariables false
namespace Go.Proofs.YtjmgfhbadnechaaDoor.Lsw
open Go.RowKit Wrd Nam Env Num Lxp Lxw Lxr Lxk Lxs Lxj Lrs Lrt Lru Apt Lrv Lrc Lrw Lsa Lsb Lsc Lsd Lse Lss

theorem go_length (s : List UInt8) : ∀ (n p : Nat) (line : Int) (out : List Tok) (last : Tok) (l : List Tok), p ≤ s.length → Lxn.go s n p line out last = .inr l → l.length ≤ out.length + (s.length - p) + 2
  | 0, _, _, _, _, _, _, h => by cases h
  | n + 1, p, line, out, last, l, hp, h => by
    have hoc := @out_close p line out last
    cases hd : s.drop p with
    | nil =>
      rw [go_end hd] at h
      simp only [Sum.inr.injEq] at h
      rw [← h, List.length_append, List.length_cons, List.length_nil]
      omega
    | cons c r =>
      have hps : p + 1 ≤ s.length := by
        have := congrArg List.length hd
        rw [List.length_drop] at this
        simp only [List.length_cons] at this; omega
      by_cases hc : c = 10
      · subst hc
        rw [go_line hd] at h
        have := go_length s n (p + 1) _ _ _ l hps h
        omega
      · cases hb : Lxn.blank c with
        | true =>
          rw [go_blank hd hc hb] at h
          have := go_length s n (p + 1) _ _ _ l hps h
          omega
        | false =>
          by_cases hm : 0 < Lxn.comment (s.drop p)
          · rw [go_comment hm] at h
            have hl := comment_le (s.drop p)
            rw [List.length_drop] at hl
            have := go_length s n _ _ _ _ l (by omega) h
            omega
          · cases hk : Lxn.cut (s.drop p) with
            | inl e =>
              rw [go_bad hd hc hb (by omega) hk] at h
              cases h
            | inr x =>
              obtain ⟨k, t, q, m⟩ := x
              have hcp := Lpp.callPiece hd (by rw [← hd]; exact hk) line
              have hm1 := (Lxn.cut_facts hk).1
              rw [go_token hd hc hb (by omega) hk] at h
              have := go_length s n _ _ _ _ l hcp.2.1 h
              rw [List.length_append, List.length_cons, List.length_nil] at this
              omega
theorem scan_length {s : List UInt8} {l : List Tok} (h : Lxn.scan s = .inr l) : l.length ≤ s.length + 2 := by
  have := go_length s _ _ _ _ _ l (Nat.zero_le _) (Lpq.scan_go h).2
  simpa using this
theorem scan_small {s : List UInt8} {l : List Tok} (h : Lxn.scan s = .inr l) : l.length ≤ 20002 := by
  have := scan_length h
  have := (Lpq.scan_go h).1
  omega
/-- Both scanners' answers, by what the plain one answers. -/
theorem ref_ok {s : ByteArray} {l : List Tok} (h : Lxn.scan s.data.toList = .inr l) (hs : s.size ≤ 1048576) (w : World) :
    Calls Tryd.prog 13 #[.string s] w fun e w' => ∃ A c, e = .returned (.tuple #[.slice A l.length c, .int .i64 0, .int .i64 0]) ∧ OwnT w.heap.size (.slice A l.length c) l w' ∧ Below w.heap.size w w' :=
  (rscan_any s w hs).mono fun e w' ⟨h1, h2⟩ => by
    rw [h] at h1
    obtain ⟨v, he, hO⟩ := h1
    obtain ⟨A, c, rfl⟩ := OwnT.shape hO
    exact ⟨A, c, he, hO, h2⟩
theorem ref_bad {s : ByteArray} {a er : Int} (h : Lxn.scan s.data.toList = .inl (a, er)) (hs : s.size ≤ 1048576) (w : World) :
    Calls Tryd.prog 13 #[.string s] w fun e w' => e = .returned (.tuple #[.slice none 0 0, .int .i64 a, .int .i64 er]) ∧ Below w.heap.size w w' :=
  (rscan_any s w hs).mono fun e w' ⟨h1, h2⟩ => by
    rw [h] at h1
    exact ⟨h1, h2⟩
theorem lex_ok {s : ByteArray} {l : List Tok} (h : Lxn.scan s.data.toList = .inr l) (hs : s.size ≤ 1048576) (w : World) (hE : Env w) :
    Calls Tryd.prog 14 #[.string s] w fun e w' => ∃ A c, e = .returned (.tuple #[.slice A l.length c, .nilIface]) ∧ OwnT w.heap.size (.slice A l.length c) l w' ∧ Below w.heap.size w w' :=
  (scan_any s w hs hE).mono fun e w' ⟨h1, h2⟩ => by
    rw [h] at h1
    obtain ⟨v, he, hO⟩ := h1
    obtain ⟨A, c, rfl⟩ := OwnT.shape hO
    exact ⟨A, c, he, hO, h2⟩
theorem lex_bad {s : ByteArray} {a er : Int} (h : Lxn.scan s.data.toList = .inl (a, er)) (hs : s.size ≤ 1048576) (w : World) (hE : Env w) :
    Calls Tryd.prog 14 #[.string s] w fun e w' => ∃ N, e = .returned (.tuple #[.slice none 0 0, .iface 56 (.pointer (some ⟨N, 0, none⟩))]) ∧ (w'.heap[N]? = some (.cells #[.int .i64 a, .int .i64 er] 58 (0, 0))) ∧ Below w.heap.size w w' :=
  (scan_any s w hs hE).mono fun e w' ⟨h1, h2⟩ => by
    rw [h] at h1
    obtain ⟨N, he, _, hN⟩ := h1
    exact ⟨N, he, hN, h2⟩
theorem same_yes (v u : Value) (l : List Tok) (w : World) (hl : l.length ≤ 1048576) (hv : Lies w v l) (hu : Lies w u l) :
    Calls Tryd.prog 10 #[v, u] w fun e w' => e = .returned (.bool true) ∧ Below w.heap.size w w' :=
  (same_any v u l l w hl hv hu).mono fun e w' ⟨⟨r, he, hr⟩, q, hw⟩ => by
    subst hw
    exact ⟨by rw [he, hr.2 rfl], below_drewN w q⟩
theorem lies_nil (w : World) : Lies w (.slice none 0 0) [] := .inl ⟨rfl, none, 0, rfl⟩
set_option maxHeartbeats 4000000 in
set_option maxRecDepth 100000 in
theorem walk_bad (s : ByteArray) (a er : Int) (w : World) (hs : s.size ≤ 1048576) (hE : Hid (Env w)) (h : Hid (Lxn.scan s.data.toList = .inl (a, er))) :
    Calls Tryd.prog 4 #[.string s] w fun e w' => e = .returned (.bool true) ∧ Below w.heap.size w w' := by
  go_enter Tryd.func4, Tryd.ntmps4
  go_wp2_with fail
  refine (ref_bad h.out hs _).mono ?_
  rintro e w1 ⟨rfl, hb1⟩
  go_wp2
  go_loopw [6] (fun i wr => ∃ k : Nat, k ≤ 2 ∧ i = .int .i64 k ∧ Below w.heap.size w wr) (fun i _ => 2 - (intOf i).toNat)
  case atStart => exact ⟨0, Nat.zero_le _, rfl, hb1⟩
  case round =>
    obtain ⟨k, hk, rfl, hb⟩ := hrel
    have hsz := hb.size
    by_cases hlt : k < 2
    · go_wp2_with fail
      refine (lex_bad h.out hs _ (hE.out.below hb)).mono ?_
      rintro e w2 ⟨N, rfl, hN, hb2⟩
      have HN := Lib.hid hN
      clear hN
      go_wp2_with fail
      refine (number_fault N a er _ HN).mono ?_
      rintro e w3 ⟨rfl, hb3⟩
      go_wp2_with fail
      refine (same_yes (.slice none 0 0) (.slice none 0 0) [] _ (Nat.zero_le _) (lies_nil _) (lies_nil _)).mono ?_
      rintro e w4 ⟨rfl, hb4⟩
      go_wp2_with fail
      refine (spoil_nil _).mono ?_
      rintro e w5 ⟨rfl, hb5⟩
      have z2 := hb2.size
      have z3 := hb3.size
      have z4 := hb4.size
      go_wp2
      go_roundw
      case rel => exact ⟨k + 1, by omega, by go_num, (((hb.trans (hb2.mono hsz)).trans (hb3.mono (by omega))).trans (hb4.mono (by omega))).trans (hb5.mono (by omega))⟩
      case measure => simp [intOf]; omega
    · go_wp2
      go_ret
      exact ⟨rfl, hb⟩
set_option maxHeartbeats 4000000 in
set_option maxRecDepth 100000 in
theorem walk_ok (s : ByteArray) (l : List Tok) (w : World) (hs : s.size ≤ 1048576) (hE : Hid (Env w)) (h : Hid (Lxn.scan s.data.toList = .inr l)) :
    Calls Tryd.prog 4 #[.string s] w fun e w' => e = .returned (.bool true) ∧ Below w.heap.size w w' := by
  have hl := scan_small h.out
  go_enter Tryd.func4, Tryd.ntmps4
  go_wp2_with fail
  refine (ref_ok h.out hs _).mono ?_
  rintro e w1 ⟨A1, cp1, rfl, hO1, hb1⟩
  have HL := Lib.hid (OwnT.lies hO1)
  have hz1 := hb1.size
  clear hO1
  go_wp2
  go_loopw [6] (fun i wr => ∃ k : Nat, k ≤ 2 ∧ i = .int .i64 k ∧ Below w1.heap.size w1 wr) (fun i _ => 2 - (intOf i).toNat)
  case atStart => exact ⟨0, Nat.zero_le _, rfl, Below.refl _ _⟩
  case round =>
    obtain ⟨k, hk, rfl, hb⟩ := hrel
    have hsz := hb.size
    by_cases hlt : k < 2
    · go_wp2_with fail
      refine (lex_ok h.out hs _ (hE.out.below (hb1.trans (hb.mono hz1)))).mono ?_
      rintro e w2 ⟨A2, cp2, rfl, hO2, hb2⟩
      have z2 := hb2.size
      have HO2 := Lib.hid hO2
      clear hO2
      go_wp2_with fail
      refine (number_nil _).mono ?_
      rintro e w3 ⟨rfl, hb3⟩
      have z3 := hb3.size
      have HB3 := hb.trans ((hb2.trans (hb3.mono z2)).mono hsz)
      go_wp2_with fail
      refine (same_yes _ _ l _ (by omega) ((OwnT.lies HO2.out).below hb3) (HL.out.below HB3)).mono ?_
      rintro e w4 ⟨rfl, hb4⟩
      have z4 := hb4.size
      go_wp2_with fail
      refine (spoil_any wr.heap.size _ l _ (OwnT.below (OwnT.below HO2.out hb3 (Nat.le_refl _)) hb4 (Nat.le_refl _)) (by omega) (by omega)).mono ?_
      rintro e w5 ⟨rfl, hb5⟩
      go_wp2
      go_roundw
      case rel => exact ⟨k + 1, by omega, by go_num, (HB3.trans (hb4.mono (by omega))).trans (hb5.mono hsz)⟩
      case measure => simp [intOf]; omega
    · go_wp2
      go_ret
      exact ⟨rfl, hb1.trans (hb.mono hz1)⟩
theorem walk (s : ByteArray) (w : World) (hs : s.size ≤ 1048576) (hE : Env w) :
    Calls Tryd.prog 4 #[.string s] w fun e w' => e = .returned (.bool true) ∧ Below w.heap.size w w' := by
  cases h : Lxn.scan s.data.toList with
  | inl x => obtain ⟨a, er⟩ := x; exact walk_bad s a er w hs (Lib.hid hE) (Lib.hid h)
  | inr l => exact walk_ok s l w hs (Lib.hid hE) (Lib.hid h)
end Go.Proofs.YtjmgfhbadnechaaDoor.Lsw
