/- The walk of LexPlaces. -/
import Derived.Test.YtjmgfhbadnechaaDoorLqc
set_option linter.unusedVariables false
namespace Go.Proofs.YtjmgfhbadnechaaDoor.Lqd
open Go.RowKit Wrd Nam Env Num Lxp Lxw Lxr Lxk Lxs Lxj Lrs Lrt Lru Apt Lrv Lrc Lrw Lsa Lsb Lsc Lsd Lse Lss Lsw Lpw Lqb Lqc

/-- A number that a token may bear. -/
def Num64 (t : Tok) : Prop := -9223372036854775808 ≤ t.num ∧ t.num ≤ 9223372036854775807
theorem go_num64 (s : List UInt8) : ∀ (n p : Nat) (line : Int) (out : List Tok) (last : Tok) (l : List Tok), (∀ t ∈ out, Num64 t) → Lxn.go s n p line out last = .inr l → ∀ t ∈ l, Num64 t
  | 0, _, _, _, _, _, _, h => by cases h
  | n + 1, p, line, out, last, l, ho, h => by
    have hcl : ∀ t ∈ Lxn.close p line out last, Num64 t := by
      unfold Lxn.close
      split
      · intro t ht
        rw [List.mem_append, List.mem_singleton] at ht
        rcases ht with ht | rfl
        · exact ho t ht
        · exact ⟨by show (-9223372036854775808 : Int) ≤ 0; decide, by show (0 : Int) ≤ _; decide⟩
      · exact ho
    cases hd : s.drop p with
    | nil =>
      rw [go_end hd] at h
      simp only [Sum.inr.injEq] at h
      subst h
      intro t ht
      rw [List.mem_append, List.mem_singleton] at ht
      rcases ht with ht | rfl
      · exact hcl t ht
      · exact ⟨by show (-9223372036854775808 : Int) ≤ 0; decide, by show (0 : Int) ≤ _; decide⟩
    | cons c r =>
      by_cases hc : c = 10
      · subst hc
        rw [go_line hd] at h
        exact go_num64 s n (p + 1) _ _ _ l hcl h
      · cases hb : Lxn.blank c with
        | true =>
          rw [go_blank hd hc hb] at h
          exact go_num64 s n (p + 1) _ _ _ l ho h
        | false =>
          by_cases hm : 0 < Lxn.comment (s.drop p)
          · rw [go_comment hm] at h
            exact go_num64 s n _ _ _ _ l ho h
          · cases hk : Lxn.cut (s.drop p) with
            | inl e =>
              rw [go_bad hd hc hb (by omega) hk] at h
              cases h
            | inr x =>
              obtain ⟨k, t, q, m⟩ := x
              have hcf := Lxn.cut_facts hk
              rw [go_token hd hc hb (by omega) hk] at h
              refine go_num64 s n _ _ _ _ l ?_ h
              intro t ht
              rw [List.mem_append, List.mem_singleton] at ht
              rcases ht with ht | rfl
              · exact ho t ht
              · exact ⟨hcf.2.2.2.2.2.1, hcf.2.2.2.2.2.2⟩
theorem scan_num64 {s : List UInt8} {l : List Tok} (h : Lxn.scan s = .inr l) : ∀ t ∈ l, Num64 t :=
  go_num64 s _ _ _ _ _ l (fun t ht => by simp at ht) (Lpq.scan_go h).2
set_option maxHeartbeats 4000000 in
set_option maxRecDepth 100000 in
theorem walk_bad (s : ByteArray) (a er : Int) (w : World) (hs : s.size ≤ 1048576) (hE : Hid (Env w)) (h : Hid (Lxn.scan s.data.toList = .inl (a, er))) :
    Calls Tryd.prog 5 #[.string s] w fun e w' => e = .returned (.bool true) ∧ Below w.heap.size w w' := by
  have hf : 0 ≤ a ∧ a ≤ s.size ∧ er ≠ 0 := by
    have := h.out
    unfold Lxn.scan at this
    split at this
    · simp only [Sum.inl.injEq, Prod.mk.injEq] at this
      obtain ⟨rfl, rfl⟩ := this
      exact ⟨by omega, by omega, by omega⟩
    · have := Lpp.go_err _ _ _ _ _ _ _ _ (by omega) (Nat.zero_le _) this
      have e : s.data.toList.length = s.size := rfl
      omega
  obtain ⟨h0, h1, h2⟩ := hf
  have t0 : decide (a < 0) = false := decide_eq_false (by omega)
  have t1 : decide ((s.size : Int) < a) = false := decide_eq_false (by omega)
  have t2 : (er != 0) = true := by rw [bne_iff_ne]; exact h2
  clear h2
  go_enter Tryd.func5, Tryd.ntmps5
  go_wp2_with fail
  refine (lex_bad h.out hs _ hE.out).mono ?_
  rintro e w2 ⟨N, rfl, hN, hb2⟩
  have HN := Lib.hid hN
  clear hN
  go_wp2_with fail
  refine (number_fault N a er _ HN).mono ?_
  rintro e w3 ⟨rfl, hb3⟩
  go_wp2
  go_ret
  exact ⟨rfl, hb2.trans (hb3.mono hb2.size)⟩
theorem drop_cons {l : List Tok} {k : Nat} (h : k < l.length) : l.drop k = l.getD k zero :: l.drop (k + 1) := by
  rw [List.drop_eq_getElem_cons h, List.getD_eq_getElem?_getD, List.getElem?_eq_getElem h]; rfl
theorem slice_at (s : ByteArray) (f p : Nat) : (s.extract f p).data.toList = (s.data.toList.drop f).take (p - f) := Lib.extract_data s f p
set_option maxHeartbeats 16000000 in
set_option maxRecDepth 100000 in
theorem walk_ok (s : ByteArray) (l : List Tok) (w : World) (hs : s.size ≤ 1048576) (hE : Hid (Env w)) (h : Hid (Lxn.scan s.data.toList = .inr l)) :
    Calls Tryd.prog 5 #[.string s] w fun e w' => e = .returned (.bool true) ∧ Below w.heap.size w w' := by
  have hl := scan_small h.out
  have hne := scan_some h.out
  have HNUM := Lib.hid (scan_num64 h.out)
  have HNEAR : Hid (∀ t ∈ l, Near s.size t) := scan_near h.out
  have HG0 : Hid (Lpp.Good s.data.toList 0 1 l ∧ ∃ t, l.getLast? = some t ∧ t.pos = s.size) := by
    obtain ⟨r, hr, _, hg, ht⟩ := Lpp.go_good s.data.toList _ _ _ _ _ _ (Nat.zero_le _) (Lpq.scan_go h.out).2
    rw [List.nil_append] at hr
    subst hr
    exact ⟨hg, ht⟩
  have hpos : 0 < l.length := List.length_pos_iff.2 hne
  have HNE := Lib.hid hne
  clear hne
  go_enter Tryd.func5, Tryd.ntmps5
  go_wp2_with fail
  refine (lex_ok h.out hs _ hE.out).mono ?_
  rintro e w1 ⟨A1, cp1, rfl, hO1, hb1⟩
  obtain ⟨b1, o1, rfl, lt1, T1⟩ := own_some hO1 HNE.out
  have HT := Lib.hid T1
  clear hO1 T1
  go_wp2_with fail
  refine (number_nil _).mono ?_
  rintro e w2 ⟨rfl, hb2⟩
  have HT := Lib.hid (HT.out.below hb2 lt1)
  have lt2 : b1 < w2.heap.size := Nat.lt_of_lt_of_le lt1 hb2.size
  have hbw := hb1.trans (hb2.mono hb1.size)
  clear hb1 hb2 lt1
  go_wp2
  go_loopw [8, 9, 10] (fun fr ln i wr => ∃ (k f : Nat) (line : Int), k ≤ l.length ∧ i = .int .i64 k ∧ fr = .int .i64 f ∧ ln = .int .i64 line ∧ f ≤ s.size ∧ 1 ≤ line ∧ line ≤ 1048577 ∧ Hid (Lpp.Good s.data.toList f line (l.drop k)) ∧ Below w2.heap.size w2 wr) (fun _ _ i _ => l.length - (intOf i).toNat)
  case atStart => exact ⟨0, 0, 1, Nat.zero_le _, rfl, rfl, rfl, Nat.zero_le _, by omega, by omega, HG0.out.1, Below.refl _ _⟩
  case round =>
    obtain ⟨k, f, line, hk, rfl, rfl, rfl, hf, ln0, ln1, HG, hbr⟩ := hrel
    have hltr : b1 < wr.heap.size := Nat.lt_of_lt_of_le lt2 hbr.size
    by_cases hlt : k < l.length
    · obtain ⟨t, ht⟩ : ∃ t, l.getD k zero = t := ⟨_, rfl⟩
      have hat := (HT.out.below hbr lt2) k hlt
      rw [ht] at hat
      have hmem : t ∈ l := by rw [← ht]; exact getD_tok hlt
      have hnum := HNUM.out t hmem
      have hnear := HNEAR.out t hmem
      have hg := HG.out
      rw [drop_cons hlt, ht] at hg
      obtain ⟨kd, tx, nu, ps, ln⟩ := t
      obtain ⟨p, n, hp, hfp, hps, hkd, hbt, hln, hlong, htx, hrest⟩ := hg
      simp only at hp hln hnum hnear hkd htx
      subst hp
      subst hln
      obtain ⟨c0, c1, c2, c3, c4⟩ := hat
      simp only at c0 c1 c2 c3 c4
      obtain ⟨nu0, nu1⟩ := hnum
      obtain ⟨_, _, nr0, nr1⟩ := hnear
      simp only at nu0 nu1 nr0 nr1
      obtain ⟨m, hm⟩ : ∃ m, Lpp.long s.data.toList ⟨kd, tx, nu, p, line + n⟩ = m := ⟨_, rfl⟩
      have CL : Hid (∀ w, Calls Tryd.prog 18 #[.string s, .agg #[.int .i64 kd, .string tx, .int .i64 nu, .int .i64 p, .int .i64 (line + n)]] w fun e w' => e = .returned (.int .i64 m) ∧ Below w.heap.size w w') := fun w => by
        have := long_any s kd tx nu p (line + n) w hps hs nu0 nu1
        rw [hm] at this
        exact this
      rw [hm] at hlong htx hrest
      obtain ⟨G, hG⟩ : ∃ G, s.extract f p = G := ⟨_, rfl⟩
      have hGd : G.data.toList = (s.data.toList.drop f).take (p - f) := by rw [← hG]; exact slice_at s f p
      have hGs : G.size ≤ 1048576 := by
        have e1 : G.data.toList.length = G.size := rfl
        have e2 : s.data.toList.length = s.size := rfl
        rw [hGd, List.length_take, List.length_drop] at e1
        omega
      have CB := Lib.hid (fun w => between_any G n w hGs (by show _ = _; rw [hGd]; exact hbt))
      have HB : Hid ((kd == 0) = ((k : Int) == (l.length : Int) - 1)) := by
        have hdl : (l.drop (k + 1) = []) ↔ k + 1 = l.length := by
          rw [List.drop_eq_nil_iff]; omega
        rw [hdl] at hkd
        show _ = _
        by_cases e : k + 1 = l.length
        · rw [beq_iff_eq.2 (hkd.2 e), beq_iff_eq.2 (by omega)]
        · rw [beq_eq_false_iff_ne.2 (fun h => e (hkd.1 h)), beq_eq_false_iff_ne.2 (by omega)]
      have HREST := Lib.hid hrest
      have hps' : p ≤ s.size := hps
      have hlong' : p + m ≤ s.size := hlong
      have hTX : Hid ((kd == 1) = true ∨ (kd == 2) = true ∨ (kd == 5) = true → s.extract p (p + m) = tx) := by
        intro hk3
        refine Plo.ba_ext ?_
        rw [slice_data]
        exact htx (by simpa using hk3)
      clear hm hbt hrest hkd htx ht hmem HG hGd hps hlong
      have t0 : decide ((p : Int) < (f : Int)) = false := decide_eq_false (by omega)
      have t1 : decide ((s.size : Int) < (p : Int)) = false := decide_eq_false (by omega)
      have b0 : (0 : Int) ≤ (f : Int) := by omega
      have b1' : (f : Int) ≤ (p : Int) := by omega
      have b2 : (p : Int) ≤ (s.size : Int) := by omega
      have t2 : decide ((m : Int) < 0) = false := decide_eq_false (by omega)
      have t3 : decide ((s.size : Int) - (p : Int) < (m : Int)) = false := decide_eq_false (by omega)
      cases hB : (kd == 0) with
      | true =>
        have hB2 : ((k : Int) == (l.length : Int) - 1) = true := by rw [← HB.out]; exact hB
        obtain rfl := eq_of_beq hB
        clear hB
        go_wp2_with fail
        refine (CB.out _).mono ?_
        rintro e w3 ⟨rfl, rfl⟩
        go_wp2_with fail
        refine (CL.out _).mono ?_
        rintro e w3 ⟨rfl, hb3⟩
        have hb4 : Below w2.heap.size w2 w3 := hbr.trans ((below_box hb3).mono hbr.size)
        obtain ⟨⟨c0, c1, c2, c3, c4⟩, _⟩ := tok_slot hb3
        go_wp2_with fail
        go_quiet (fail)
        go_wp2
        go_roundw
        case rel => exact ⟨k + 1, p + m, line + n, by omega, by go_num, by go_num, rfl, hlong', by omega, by omega, HREST, below_drewN_up hb4 _⟩
        case measure => simp [intOf]; omega
      | false =>
        have hB2 : ((k : Int) == (l.length : Int) - 1) = false := by rw [← HB.out]; exact hB
        cases e1 : (kd == 1) with
        | true =>
          have hY : s.extract p (p + m) = tx := hTX.out (.inl e1)
          go_wp2_with fail
          refine (CB.out _).mono ?_
          rintro e w3 ⟨rfl, rfl⟩
          go_wp2_with fail
          refine (CL.out _).mono ?_
          rintro e w3 ⟨rfl, hb3⟩
          have hb4 : Below w2.heap.size w2 w3 := hbr.trans ((below_box hb3).mono hbr.size)
          obtain ⟨⟨c0, c1, c2, c3, c4⟩, _⟩ := tok_slot hb3
          have s0 : (0 : Int) ≤ (p : Int) + (m : Int) := by omega
          have s1 : (p : Int) ≤ (p : Int) + (m : Int) := by omega
          have s2 : (p : Int) + (m : Int) ≤ (s.size : Int) := by omega
          have s3 : ((p : Int) + (m : Int)).toNat = p + m := by omega
          have s4 : IntKind.i64.wrap ((p : Int) + (m : Int)) = (p : Int) + (m : Int) := IntWalk.i64_in _ (by omega)
          go_wp2_with fail
          go_quiet (fail)
          go_wp2
          go_roundw
          case rel => exact ⟨k + 1, p + m, line + n, by omega, by go_num, by go_num, rfl, hlong', by omega, by omega, HREST, below_drewN_up hb4 _⟩
          case measure => simp [intOf]; omega
        | false =>
        cases e2 : (kd == 2) with
        | true =>
          have hY : s.extract p (p + m) = tx := hTX.out (.inr (.inl e2))
          go_wp2_with fail
          refine (CB.out _).mono ?_
          rintro e w3 ⟨rfl, rfl⟩
          go_wp2_with fail
          refine (CL.out _).mono ?_
          rintro e w3 ⟨rfl, hb3⟩
          have hb4 : Below w2.heap.size w2 w3 := hbr.trans ((below_box hb3).mono hbr.size)
          obtain ⟨⟨c0, c1, c2, c3, c4⟩, _⟩ := tok_slot hb3
          have s0 : (0 : Int) ≤ (p : Int) + (m : Int) := by omega
          have s1 : (p : Int) ≤ (p : Int) + (m : Int) := by omega
          have s2 : (p : Int) + (m : Int) ≤ (s.size : Int) := by omega
          have s3 : ((p : Int) + (m : Int)).toNat = p + m := by omega
          have s4 : IntKind.i64.wrap ((p : Int) + (m : Int)) = (p : Int) + (m : Int) := IntWalk.i64_in _ (by omega)
          go_wp2_with fail
          go_quiet (fail)
          go_wp2
          go_roundw
          case rel => exact ⟨k + 1, p + m, line + n, by omega, by go_num, by go_num, rfl, hlong', by omega, by omega, HREST, below_drewN_up hb4 _⟩
          case measure => simp [intOf]; omega
        | false =>
        cases e5 : (kd == 5) with
        | true =>
          have hY : s.extract p (p + m) = tx := hTX.out (.inr (.inr e5))
          go_wp2_with fail
          refine (CB.out _).mono ?_
          rintro e w3 ⟨rfl, rfl⟩
          go_wp2_with fail
          refine (CL.out _).mono ?_
          rintro e w3 ⟨rfl, hb3⟩
          have hb4 : Below w2.heap.size w2 w3 := hbr.trans ((below_box hb3).mono hbr.size)
          obtain ⟨⟨c0, c1, c2, c3, c4⟩, _⟩ := tok_slot hb3
          have s0 : (0 : Int) ≤ (p : Int) + (m : Int) := by omega
          have s1 : (p : Int) ≤ (p : Int) + (m : Int) := by omega
          have s2 : (p : Int) + (m : Int) ≤ (s.size : Int) := by omega
          have s3 : ((p : Int) + (m : Int)).toNat = p + m := by omega
          have s4 : IntKind.i64.wrap ((p : Int) + (m : Int)) = (p : Int) + (m : Int) := IntWalk.i64_in _ (by omega)
          go_wp2_with fail
          go_quiet (fail)
          go_wp2
          go_roundw
          case rel => exact ⟨k + 1, p + m, line + n, by omega, by go_num, by go_num, rfl, hlong', by omega, by omega, HREST, below_drewN_up hb4 _⟩
          case measure => simp [intOf]; omega
        | false =>
          go_wp2_with fail
          refine (CB.out _).mono ?_
          rintro e w3 ⟨rfl, rfl⟩
          go_wp2_with fail
          refine (CL.out _).mono ?_
          rintro e w3 ⟨rfl, hb3⟩
          have hb4 : Below w2.heap.size w2 w3 := hbr.trans ((below_box hb3).mono hbr.size)
          obtain ⟨⟨c0, c1, c2, c3, c4⟩, _⟩ := tok_slot hb3
          go_wp2_with fail
          go_quiet (fail)
          go_wp2
          go_roundw
          case rel => exact ⟨k + 1, p + m, line + n, by omega, by go_num, by go_num, rfl, hlong', by omega, by omega, HREST, below_drewN_up hb4 _⟩
          case measure => simp [intOf]; omega
    · have HL : Hid (l.getD (l.length - 1) zero = l.getLast HNE.out ∧ (l.getLast HNE.out).pos = s.size) := by
        obtain ⟨t, h1, h2⟩ := HG0.out.2
        rw [List.getLast?_eq_some_getLast HNE.out] at h1
        simp only [Option.some.injEq] at h1
        refine ⟨?_, by rw [h1]; exact h2⟩
        rw [List.getD_eq_getElem?_getD, List.getElem?_eq_getElem (by omega), List.getLast_eq_getElem]; rfl
      have hat := (HT.out.below hbr lt2) (l.length - 1) (by omega)
      rw [HL.out.1] at hat
      have c3 := hat.c3
      rw [HL.out.2] at c3
      obtain ⟨q, hq⟩ : ∃ q, l.length = q + 1 := ⟨l.length - 1, by omega⟩
      clear hat HL
      rw [hq, Nat.add_sub_cancel] at c3
      have hkq : ¬ k < q + 1 := by omega
      have q0 : (0 : Int) ≤ (q : Int) := by omega
      have q1 : (q : Int) < (q : Int) + 1 := by omega
      have q2 : q ≤ 20001 := by omega
      rw [hq]
      clear hlt hpos hl hk
      go_wp2
      go_ret
      exact ⟨rfl, hbw.trans (hbr.mono hbw.size)⟩
theorem walk (s : ByteArray) (w : World) (hs : s.size ≤ 1048576) (hE : Env w) :
    Calls Tryd.prog 5 #[.string s] w fun e w' => e = .returned (.bool true) ∧ Below w.heap.size w w' := by
  cases h : Lxn.scan s.data.toList with
  | inl x => obtain ⟨a, er⟩ := x; exact walk_bad s a er w hs (Lib.hid hE) (Lib.hid h)
  | inr l => exact walk_ok s l w hs (Lib.hid hE) (Lib.hid h)
end Go.Proofs.YtjmgfhbadnechaaDoor.Lqd
