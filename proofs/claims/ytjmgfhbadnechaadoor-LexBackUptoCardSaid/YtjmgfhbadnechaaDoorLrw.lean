/- drowseref03.Scan, walked. -/
import Derived.Test.YtjmgfhbadnechaaDoorLrv
set_option linter.unusedVariables false
namespace Go.Proofs.YtjmgfhbadnechaaDoor.Lrw
open Go.RowKit Wrd Nam Lxp Lxw Lxr Lxk Lxs Lrs Lrt Lru Apt Lrv Lrc

/-- What stands at a round's head: place, line, last token, the list so far. -/
structure Head (s : ByteArray) (w0 : World) (v : Value) (p : Nat) (line : Int) (wr : World) : Prop where
  hp : p ≤ s.size
  l0 : 1 ≤ line
  l1 : line ≤ p + 1
  below : Below w0.heap.size w0 wr
  lt : w0.heap.size < wr.heap.size
  more : ∃ n out last, OwnT (w0.heap.size + 1) v out wr ∧ out.length ≤ p ∧ TokBlk wr w0.heap.size last ∧ s.size < p + n ∧ Lxn.go s.data.toList n p line out last = Lxn.go s.data.toList (s.size + 1) 0 1 [] zero
theorem Head.drew {s : ByteArray} {w0 : World} {v : Value} {p : Nat} {line : Int} {wr : World} (h : Head s w0 v p line wr) : True := trivial

theorem head_start (s : ByteArray) (w0 : World) : Head s w0 (.slice none 0 0) 0 1 (w0.alloc (.cells #[.int .i64 0, .string ⟨#[]⟩, .int .i64 0, .int .i64 0, .int .i64 0] 42)) :=
  ⟨Nat.zero_le _, by omega, by omega, (Below.refl _ _).alloc (Nat.le_refl _) _, by simp, s.size + 1, [], zero, OwnT.nil _ _, Nat.le_refl _, heap_alloc_new w0 _, by omega, rfl⟩
theorem drop_some {s : ByteArray} {p : Nat} (h : p < s.size) : s.data.toList.drop p = s[p] :: s.data.toList.drop (p + 1) := drop_at s p h
theorem drop_none {s : ByteArray} {p : Nat} (h : ¬ p < s.size) : s.data.toList.drop p = [] := List.drop_eq_nil_of_le (by show s.size ≤ _; omega)
theorem comment_le (r : List UInt8) : Lxn.comment r ≤ r.length := by
  by_cases h : 0 < Lxn.comment r
  · obtain ⟨_, _, _, hl, _⟩ := Lpp.comment_shape h; exact hl
  · omega
/-- A state whose last token is laidTok anew. -/
theorem head_stored {s : ByteArray} {w0 w : World} {v : Value} {p n : Nat} {line : Int} {out : List Tok} {t0 : Tok} (t : Tok) (hp : p ≤ s.size) (l0 : 1 ≤ line) (l1 : line ≤ p + 1) (hb : Below w0.heap.size w0 w) (hlt : w0.heap.size < w.heap.size)
    (hO : OwnT (w0.heap.size + 1) v out w) (hol : out.length ≤ p) (hT : TokBlk w w0.heap.size t0) (hn : s.size < p + n) (hgo : Lxn.go s.data.toList n p line out t = Lxn.go s.data.toList (s.size + 1) 0 1 [] zero) :
    Head s w0 v p line (laidTok w w0.heap.size t) :=
  ⟨hp, l0, l1, stored_below hb (Nat.le_refl _) t, by rw [stored_size]; exact hlt, n, out, t, OwnT.other hO fun b h => stored_other w _ t b (by omega), hol, stored_blk hT t, hn, hgo⟩
theorem out_close {p : Nat} {line : Int} {out : List Tok} {last : Tok} : (Lxn.close p line out last).length ≤ out.length + 1 := by
  unfold Lxn.close; split <;> simp
set_option maxHeartbeats 8000000 in
set_option maxRecDepth 100000 in
theorem rscan_go (s : ByteArray) (w : World) (hs : s.size ≤ 20000) :
    Calls Tryd.prog 13 #[.string s] w fun e w' => Scanned w.heap.size (Lxn.go s.data.toList (s.size + 1) 0 1 [] zero) e w' ∧ Below w.heap.size w w' := by
  obtain ⟨R, hR⟩ : ∃ R, Lxn.go s.data.toList (s.size + 1) 0 1 [] zero = R := ⟨_, rfl⟩
  have HH := Lib.hid (head_start s w)
  rw [hR]
  have HR := Lib.hid hR
  clear hR
  go_enter Tryd.func13, Tryd.ntmps13
  go_wp2
  go_loopw [5, 6, 8] (fun u l i wr => ∃ (v : Value) (p : Nat) (line : Int), v = u ∧ i = .int .i64 p ∧ l = .int .i64 line ∧ Hid (Head s w v p line wr)) (fun _ _ i _ => s.size - (intOf i).toNat)
  case atStart => exact ⟨_, 0, 1, rfl, rfl, rfl, HH⟩
  case round =>
    obtain ⟨v, p, line, rfl, rfl, rfl, H⟩ := hrel
    clear HH
    have hp := H.out.hp
    have l0 := H.out.l0
    have l1 := H.out.l1
    by_cases hlt : p < s.size
    · obtain ⟨c, hc⟩ : ∃ c, Lxn.comment (s.data.toList.drop p) = c := ⟨_, rfl⟩
      have HC : Hid (∀ w, Calls Tryd.prog 23 #[.string s, .int .i64 p] w fun e w' => e = .returned (.int .i64 c) ∧ w = w') := fun w => by
        have := comment_any s p w hlt (by omega)
        rw [hc] at this
        exact this
      have hcl : p + c ≤ s.size := by
        have := comment_le (s.data.toList.drop p)
        rw [hc, List.length_drop] at this
        have e : s.data.toList.length = s.size := rfl
        omega
      by_cases hc0 : 0 < c
      · have HN : Hid (Head s w v p line wr → Head s w v (p + c) line wr) := fun h => by
          obtain ⟨n, out, last, h1, h2, h3, h4, h5⟩ := h.more
          obtain ⟨n, rfl⟩ : ∃ m, n = m + 1 := ⟨n - 1, by omega⟩
          refine ⟨hcl, h.l0, by omega, h.below, h.lt, n, out, last, h1, by omega, h3, by omega, ?_⟩
          rw [← h5, go_comment (by rw [hc]; exact hc0), hc]
        clear hc
        go_wp2_with fail
        refine (HC.out _).mono ?_
        rintro e w1 ⟨rfl, rfl⟩
        go_wp2
        go_roundw
        case rel => exact ⟨_, p + c, line, rfl, by go_num, rfl, HN.out H.out⟩
        case measure => simp [intOf]; omega
      · have hc00 : c = 0 := by omega
        subst hc00
        have HM := Lib.hid hc
        have HD := Lib.hid (drop_some hlt)
        clear hc hc0 hcl
        obtain ⟨n, out, last, hO, hol, hT, hn, hgo⟩ := H.out.more
        obtain ⟨n, rfl⟩ : ∃ m, n = m + 1 := ⟨n - 1, by omega⟩
        have hbw := H.out.below
        have hsz := H.out.lt
        have HGO := Lib.hid hgo
        obtain ⟨⟨c0, c1, c2, c3, c4⟩, f0, f1, f2, f3, f4⟩ := hT.cells
        have HO := Lib.hid hO
        have HT := Lib.hid hT
        clear hO hT hgo
        obtain ⟨A1, cp1, rfl⟩ := OwnT.shape HO.out
        cases h10 : ((s[p].toNat : Int) == 10) with
        | true =>
          have HD : Hid (s.data.toList.drop p = 10 :: s.data.toList.drop (p + 1)) := by
            have : s[p] = 10 := UInt8.toNat_inj.1 (by have := eq_of_beq h10; show s[p].toNat = 10; omega)
            show _ = _
            rw [HD.out, this]
          obtain ⟨b, hb⟩ : ∃ b, Lxn.calls last = b := ⟨_, rfl⟩
          have RC : Hid (∀ w, Calls Tryd.prog 24 #[.agg #[.int .i64 last.kind, .string last.text, .int .i64 last.num, .int .i64 last.pos, .int .i64 last.line]] w fun e w' => e = .returned (.bool b) ∧ Below w.heap.size w w') := fun w => by
            have := rcalls_any last w
            rw [hb] at this
            exact this
          have HG2 : Hid (Lxn.go s.data.toList n (p + 1) (line + 1) (Lxn.close p line out last) zero = Lxn.go s.data.toList (s.size + 1) 0 1 [] zero) := by
            show _ = _
            rw [← HGO.out, go_line HD.out]
          have HCB := Lib.hid hb
          clear hb
          go_wp2_with fail
          refine (HC.out _).mono ?_
          rintro e w1 ⟨rfl, rfl⟩
          go_wp2_with fail
          refine (RC.out _).mono ?_
          rintro e w2 ⟨rfl, hb2⟩
          have hO2 := OwnT.below HO.out hb2 (Nat.le_refl _)
          have hT2 := HT.out.below hb2 hsz
          have hbw2 : Below w.heap.size w w2 := hbw.trans (hb2.mono (by omega))
          have hsz2 : w.heap.size < w2.heap.size := by have := hb2.size; omega
          clear c0 c1 c2 c3 c4 f0 f1 f2 f3 f4
          cases b with
          | true =>
            have HCL := Lib.hid (close_yes (p := p) (line := line) (out := out) HCB.out)
            have HO2 := Lib.hid hO2
            have HT2 := Lib.hid hT2
            clear hO2 hT2
            go_wp2_with (at_builtin; refine wpList_appT rfl _ _ rfl (w.heap.size + 1) _ _ w2 HO2.out rfl 6 ⟨#[10]⟩ 0 p line _ _ rfl rfl (by omega) (by omega) ?_; intro v3 w3 hO3 hb3 hfar; have hT3 := HT2.out.below hb3 (by omega); obtain ⟨⟨c0, c1, c2, c3, c4⟩, f0, f1, f2, f3, f4⟩ := hT3.cells; have HO3 := Lib.hid hO3; have HT3 := Lib.hid hT3; clear hO3 hT3 hfar)
            go_roundw
            case rel =>
              refine ⟨_, p + 1, line + 1, rfl, by go_num, by go_num, ?_⟩
              have hO3 := HO3.out
              rw [← HCL.out] at hO3
              have hoc := @out_close p line out last
              exact head_stored zero (by omega) (by omega) (by omega) (hbw2.trans (hb3.mono (by omega))) (by have := hb3.size; omega) hO3 (by omega) HT3.out (by omega) HG2.out
            case measure => simp [intOf]; omega
          | false =>
            have HCL := Lib.hid (close_no (p := p) (line := line) (out := out) HCB.out)
            obtain ⟨⟨c0, c1, c2, c3, c4⟩, f0, f1, f2, f3, f4⟩ := hT2.cells
            have HO2 := Lib.hid hO2
            have HT2 := Lib.hid hT2
            clear hO2 hT2
            go_wp2
            go_roundw
            case rel =>
              refine ⟨_, p + 1, line + 1, rfl, by go_num, by go_num, ?_⟩
              have hO3 : OwnT (w.heap.size + 1) (.slice A1 out.length cp1) (Lxn.close p line out last) w2 := by rw [HCL.out]; exact HO2.out
              have hoc := @out_close p line out last
              exact head_stored zero (by omega) (by omega) (by omega) hbw2 hsz2 hO3 (by omega) HT2.out (by omega) HG2.out
            case measure => simp [intOf]; omega
        | false =>
          have hc10 : s[p] ≠ 10 := fun e => by rw [e] at h10; exact absurd h10 (by decide)
          cases h32 : ((s[p].toNat : Int) == 32) with
          | true =>
            have HN : Hid (Head s w (.slice A1 out.length cp1) (p + 1) line wr) := by
              have hb : Lxn.blank s[p] = true := by
                have : s[p] = 32 := UInt8.toNat_inj.1 (by have := eq_of_beq h32; show s[p].toNat = 32; omega)
                rw [this]; decide
              exact ⟨by omega, l0, by omega, hbw, hsz, n, out, last, HO.out, by omega, HT.out, by omega, by rw [← HGO.out, go_blank HD.out hc10 hb]⟩
            clear hc10
            go_wp2_with fail
            refine (HC.out _).mono ?_
            rintro e w1 ⟨rfl, rfl⟩
            go_wp2
            go_roundw
            case rel => exact ⟨_, p + 1, line, rfl, by go_num, rfl, HN⟩
            case measure => simp [intOf]; omega
          | false =>
          cases h9 : ((s[p].toNat : Int) == 9) with
          | true =>
            have HN : Hid (Head s w (.slice A1 out.length cp1) (p + 1) line wr) := by
              have hb : Lxn.blank s[p] = true := by
                have : s[p] = 9 := UInt8.toNat_inj.1 (by have := eq_of_beq h9; show s[p].toNat = 9; omega)
                rw [this]; decide
              exact ⟨by omega, l0, by omega, hbw, hsz, n, out, last, HO.out, by omega, HT.out, by omega, by rw [← HGO.out, go_blank HD.out hc10 hb]⟩
            clear hc10
            go_wp2_with fail
            refine (HC.out _).mono ?_
            rintro e w1 ⟨rfl, rfl⟩
            go_wp2
            go_roundw
            case rel => exact ⟨_, p + 1, line, rfl, by go_num, rfl, HN⟩
            case measure => simp [intOf]; omega
          | false =>
          cases h13 : ((s[p].toNat : Int) == 13) with
          | true =>
            have HN : Hid (Head s w (.slice A1 out.length cp1) (p + 1) line wr) := by
              have hb : Lxn.blank s[p] = true := by
                have : s[p] = 13 := UInt8.toNat_inj.1 (by have := eq_of_beq h13; show s[p].toNat = 13; omega)
                rw [this]; decide
              exact ⟨by omega, l0, by omega, hbw, hsz, n, out, last, HO.out, by omega, HT.out, by omega, by rw [← HGO.out, go_blank HD.out hc10 hb]⟩
            clear hc10
            go_wp2_with fail
            refine (HC.out _).mono ?_
            rintro e w1 ⟨rfl, rfl⟩
            go_wp2
            go_roundw
            case rel => exact ⟨_, p + 1, line, rfl, by go_num, rfl, HN⟩
            case measure => simp [intOf]; omega
          | false =>
          have hbl : Lxn.blank s[p] = false := by
            have a1 : s[p] ≠ 32 := fun e => by rw [e] at h32; exact absurd h32 (by decide)
            have a2 : s[p] ≠ 9 := fun e => by rw [e] at h9; exact absurd h9 (by decide)
            have a3 : s[p] ≠ 13 := fun e => by rw [e] at h13; exact absurd h13 (by decide)
            simp [Lxn.blank, a1, a2, a3]
          have HK := Lib.hid (And.intro hc10 hbl)
          clear hc10 hbl
          obtain ⟨X, hX⟩ : ∃ X, Lxn.cut (s.data.toList.drop p) = X := ⟨_, rfl⟩
          have TC : Hid (∀ w, Calls Tryd.prog 25 #[.string s, .int .i64 p] w fun e w' => e = .returned (pieceV X) ∧ Below w.heap.size w w') := fun w => by
            have := token_any s p w hlt (by omega)
            rw [hX] at this
            exact this
          rcases X with e | ⟨k, tx, q, m⟩
          · have he := cut_err hX
            have hne : (e != 0) = true := by rw [bne_iff_ne]; omega
            have HRR : Hid (R = .inl ((p : Int), e)) := by
              show _ = _
              rw [← HR.out, ← HGO.out]
              exact go_bad HD.out HK.out.1 HK.out.2 HM.out hX
            have TC : Hid (∀ w, Calls Tryd.prog 25 #[.string s, .int .i64 p] w fun e' w' => e' = .returned (.tuple #[.agg #[.int .i64 0, .string ⟨#[]⟩, .int .i64 0, .int .i64 0, .int .i64 0], .int .i64 0, .int .i64 e]) ∧ Below w.heap.size w w') := TC.out
            clear hX
            go_wp2_with fail
            refine (HC.out _).mono ?_
            rintro e' w1 ⟨rfl, rfl⟩
            go_wp2_with fail
            refine (TC.out _).mono ?_
            rintro e' w2 ⟨rfl, hb2⟩
            have hbw2 : Below w.heap.size w w2 := hbw.trans (hb2.mono (by omega))
            have hsz2 : w.heap.size < w2.heap.size := by have := hb2.size; omega
            go_wp2
            go_ret3
            exact ⟨by rw [HRR.out]; rfl, hbw2.alloc (by omega) _⟩
          · have hcp := Lpp.callPiece HD.out (by rw [← HD.out]; exact hX) line
            have hm := Lxn.cut_facts (by rw [HD.out] at hX; exact hX)
            have hm1 : 1 ≤ m := hm.1
            have hm2 : p + m ≤ s.size := hcp.2.1
            have HG2 : Hid (Lxn.go s.data.toList n (p + m) line (out ++ [⟨k, tx, q, p, line⟩]) ⟨k, tx, q, p, line⟩ = Lxn.go s.data.toList (s.size + 1) 0 1 [] zero) := by
              show _ = _
              rw [← HGO.out]
              exact (go_token HD.out HK.out.1 HK.out.2 HM.out hX).symm
            have TC : Hid (∀ w, Calls Tryd.prog 25 #[.string s, .int .i64 p] w fun e' w' => e' = .returned (.tuple #[.agg #[.int .i64 k, .string tx, .int .i64 q, .int .i64 0, .int .i64 0], .int .i64 m, .int .i64 0]) ∧ Below w.heap.size w w') := TC.out
            clear hX hcp hm
            go_wp2_with fail
            refine (HC.out _).mono ?_
            rintro e' w1 ⟨rfl, rfl⟩
            go_wp2_with fail
            refine (TC.out _).mono ?_
            rintro e' w2 ⟨rfl, hb2⟩
            have hbw2 : Below w.heap.size w w2 := hbw.trans (hb2.mono (by omega))
            have hsz2 : w.heap.size < w2.heap.size := by have := hb2.size; omega
            have hO2 := OwnT.below HO.out hb2 (Nat.le_refl _)
            have hT2 := HT.out.below hb2 hsz
            have HO2 := Lib.hid hO2
            have HT2 := Lib.hid hT2
            clear hO2 hT2 c0 c1 c2 c3 c4 f0 f1 f2 f3 f4
            go_wp2_with (at_builtin; refine wpList_appT rfl _ _ rfl (w.heap.size + 1) _ _ _ (OwnT.alloc HO2.out _) rfl k tx q p line _ (w2.heap.size + 1) (by simp) rfl (by omega) (by simp; omega) ?_; intro v3 w3 hO3 hb3 hfar; have hT3 := (HT2.out.below ((Below.refl w2.heap.size w2).alloc (Nat.le_refl _) _) hsz2).below hb3 (by omega); obtain ⟨⟨c0, c1, c2, c3, c4⟩, f0, f1, f2, f3, f4⟩ := hT3.cells; have hT4 : TokBlk w3 w2.heap.size ⟨k, tx, q, p, line⟩ := (hfar w2.heap.size (by simp) (fun hk => absurd (OwnT.lt HO2.out hk).2 (by omega))).trans (heap_alloc_new w2 _); obtain ⟨⟨d0, d1, d2, d3, d4⟩, g0, g1, g2, g3, g4⟩ := hT4.cells; have HO3 := Lib.hid hO3; have HT3 := Lib.hid hT3; clear hO3 hT3 hfar hT4)
            go_roundw
            case rel =>
              refine ⟨_, p + m, line, rfl, by go_num, rfl, ?_⟩
              exact head_stored ⟨k, tx, q, p, line⟩ (by omega) (by omega) (by omega) ((hbw2.alloc (by omega) _).trans (hb3.mono (by omega))) (by have := hb3.size; simp at this; omega) HO3.out (by simp; omega) HT3.out (by omega) HG2.out
            case measure => simp [intOf]; omega
    · have hps : p = s.size := by omega
      have HD := Lib.hid (drop_none hlt)
      obtain ⟨n, out, last, hO, hol, hT, hn, hgo⟩ := H.out.more
      obtain ⟨n, rfl⟩ : ∃ m, n = m + 1 := ⟨n - 1, by omega⟩
      have hbw := H.out.below
      have hsz := H.out.lt
      have HRR : Hid (R = .inr (Lxn.close p line out last ++ [⟨0, ⟨#[]⟩, 0, p, line⟩])) := by
        show _ = _
        rw [← HR.out, ← hgo]
        exact go_end HD.out
      obtain ⟨⟨c0, c1, c2, c3, c4⟩, f0, f1, f2, f3, f4⟩ := hT.cells
      have HO := Lib.hid hO
      clear hO hT hgo hps
      obtain ⟨A1, cp1, rfl⟩ := OwnT.shape HO.out
      obtain ⟨b, hb⟩ : ∃ b, Lxn.calls last = b := ⟨_, rfl⟩
      have RC : Hid (∀ w, Calls Tryd.prog 24 #[.agg #[.int .i64 last.kind, .string last.text, .int .i64 last.num, .int .i64 last.pos, .int .i64 last.line]] w fun e w' => e = .returned (.bool b) ∧ Below w.heap.size w w') := fun w => by
        have := rcalls_any last w
        rw [hb] at this
        exact this
      have HCB := Lib.hid hb
      clear hb
      go_wp2_with fail
      refine (RC.out _).mono ?_
      rintro e w2 ⟨rfl, hb2⟩
      have hO2 := OwnT.below HO.out hb2 (Nat.le_refl _)
      have hbw2 : Below w.heap.size w w2 := hbw.trans (hb2.mono (by omega))
      have hsz2 : w.heap.size < w2.heap.size := by have := hb2.size; omega
      have HO2 := Lib.hid hO2
      clear c0 c1 c2 c3 c4 f0 f1 f2 f3 f4 hO2
      cases b with
      | true =>
        have HCL := Lib.hid (close_yes (p := p) (line := line) (out := out) HCB.out)
        go_wp2_with (at_builtin; first
          | (refine wpList_appT rfl _ _ rfl (w.heap.size + 1) _ _ w3 HO3.out rfl 0 ⟨#[]⟩ 0 p line _ _ rfl rfl (by have := HL3.out; omega) (by omega) ?_; intro v4 w4 hO4 hb4 hfar4; have HO4 := Lib.hid hO4; clear hO4 hfar4)
          | (refine wpList_appT rfl _ _ rfl (w.heap.size + 1) _ _ w2 HO2.out rfl 6 ⟨#[10]⟩ 0 p line _ _ rfl rfl (by omega) (by omega) ?_; intro v3 w3 hO3 hb3 hfar; have HL3 : Hid ((out ++ [⟨6, ⟨#[10]⟩, 0, p, line⟩] : List Tok).length = out.length + 1) := (by show _ = _; simp); have hsz3 := hb3.size; have HO3 := Lib.hid hO3; clear hO3 hfar))
        go_ret3
        refine ⟨?_, (hbw2.trans (hb3.mono (by omega))).trans (hb4.mono (by omega))⟩
        rw [HRR.out, HCL.out]
        exact ⟨_, rfl, OwnT.base HO4.out (by omega)⟩
      | false =>
        have HCL := Lib.hid (close_no (p := p) (line := line) (out := out) HCB.out)
        go_wp2_with (at_builtin; refine wpList_appT rfl _ _ rfl (w.heap.size + 1) _ _ w2 HO2.out rfl 0 ⟨#[]⟩ 0 p line _ _ rfl rfl (by omega) (by omega) ?_; intro v3 w3 hO3 hb3 hfar; have HO3 := Lib.hid hO3; clear hO3 hfar)
        go_ret3
        refine ⟨?_, hbw2.trans (hb3.mono (by omega))⟩
        rw [HRR.out, HCL.out]
        exact ⟨_, rfl, OwnT.base HO3.out (by omega)⟩
end Go.Proofs.YtjmgfhbadnechaaDoor.Lrw
