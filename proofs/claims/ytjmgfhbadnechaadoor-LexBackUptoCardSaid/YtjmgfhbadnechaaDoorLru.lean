/- drowseref03.token. -/
import Derived.Test.YtjmgfhbadnechaaDoorLrt
import Derived.IntWalk
import Derived.Outline
set_option linter.unusedVariables false
namespace Go.Proofs.YtjmgfhbadnechaaDoor.Lru
open Go.RowKit Wrd Nam Lxp Lxw Lxr Lrs Lrt

theorem pieceV_shape (o : Int ⊕ Lxn.Piece) : ∃ k t q m e, pieceV o = .tuple #[.agg #[.int .i64 k, .string t, .int .i64 q, .int .i64 0, .int .i64 0], .int .i64 m, .int .i64 e] := by
  rcases o with e | ⟨k, t, q, m⟩
  · exact ⟨_, _, _, _, _, rfl⟩
  · exact ⟨_, _, _, _, _, rfl⟩
theorem cut_letter {c : UInt8} {r : List UInt8} (h : letter c = true) :
    (if Plo.isWord ⟨((c :: r).take (Lxn.run (c :: r))).toArray⟩ = true then pieceV (.inr (2, ⟨((c :: r).take (Lxn.run (c :: r))).toArray⟩, 0, Lxn.run (c :: r)))
      else if 30 < Lxn.run (c :: r) then pieceV (.inl 35) else pieceV (.inr (1, ⟨((c :: r).take (Lxn.run (c :: r))).toArray⟩, 0, Lxn.run (c :: r)))) = pieceV (Lxn.cut (c :: r)) := by
  have hd := letter_not_digit h
  have e : Lxn.cut (c :: r) = (if Plo.isWord ⟨((c :: r).take (Lxn.run (c :: r))).toArray⟩ = true then .inr (2, ⟨((c :: r).take (Lxn.run (c :: r))).toArray⟩, 0, Lxn.run (c :: r))
       else if 30 < Lxn.run (c :: r) then .inl 35 else .inr (1, ⟨((c :: r).take (Lxn.run (c :: r))).toArray⟩, 0, Lxn.run (c :: r))) := by
    show (if digit c = true then _ else if letter c = true then _ else _) = _
    rw [hd, h, if_neg (by decide), if_pos rfl]
  rw [e]
  split
  · rfl
  · split <;> rfl
theorem cut_digit {c : UInt8} {r : List UInt8} (h : digit c = true) :
    (if (Pnu.parse ((c :: r).take (Lxn.run (c :: r)))).2 = 0 then pieceV (.inr (3, ⟨#[]⟩, (Pnu.parse ((c :: r).take (Lxn.run (c :: r)))).1, Lxn.run (c :: r))) else pieceV (.inl 33)) = pieceV (Lxn.cut (c :: r)) := by
  have e : Lxn.cut (c :: r) = (if (Pnu.parse ((c :: r).take (Lxn.run (c :: r)))).2 = 0 then .inr (3, ⟨#[]⟩, (Pnu.parse ((c :: r).take (Lxn.run (c :: r)))).1, Lxn.run (c :: r)) else .inl 33) := by
    show (if digit c = true then _ else if letter c = true then _ else _) = _
    rw [h, if_pos rfl]
  rw [e]
  split <;> rfl
theorem cut_quote {r : List UInt8} : textV (Plw.unquote (34 :: r)) = pieceV (Lxn.cut (34 :: r)) := by
  have h1 : digit 34 = false := by decide
  have h2 : letter 34 = false := by decide
  unfold textV
  simp only [Lxn.cut, h1, h2, Bool.false_eq_true, if_false, if_true]
  cases Plw.unquote (34 :: r) <;> rfl
set_option maxHeartbeats 1000000 in
set_option maxRecDepth 100000 in
theorem token_letter (s : ByteArray) (p : Nat) (w : World) (hp : p < s.size) (hs : s.size ≤ 1048576) (hl : letter s[p] = true) :
    Calls Tryd.prog 25 #[.string s, .int .i64 p] w fun e w' => e = .returned (pieceV (Lxn.cut (s.data.toList.drop p))) ∧ Below w.heap.size w w' := by
  have hV := cut_letter (c := s[p]) (r := s.data.toList.drop (p + 1)) hl
  rw [← drop_at s p hp] at hV
  obtain ⟨k, t, q, m, e, hsh⟩ := pieceV_shape (Lxn.cut (s.data.toList.drop p))
  have HN := Lib.hid (fun w => name_any s p w hp hs _ hV)
  rw [hsh] at HN
  have HSH := Lib.hid hsh
  clear hsh hV
  have HL := Lib.hid hl
  clear hl
  go_enter Tryd.func25, Tryd.ntmps25
  go_wp2_with fail
  refine (rletter_is _ true _ HL.out).mono ?_
  rintro e w1 ⟨rfl, rfl⟩
  go_wp2_with fail
  refine (rdigit _ _).mono ?_
  rintro e w1 ⟨rfl, rfl⟩
  go_wp2_with fail
  refine (HN.out _).mono ?_
  rintro e' w1 ⟨rfl, hb1⟩
  obtain ⟨⟨c0, c1, c2, c3, c4⟩, f0, f1, f2, f3, f4⟩ := tok_slot hb1
  have HB := Lib.hid (tok_block hb1)
  go_wp2
  refine bodyPost_ret (tok_results rfl _ _ w.heap.size _ rfl (tok_stored HB.out) rfl) rfl ?_
  exact ⟨by rw [HSH.out]; rfl, tok_stored_below (below_box hb1)⟩
set_option maxHeartbeats 1000000 in
set_option maxRecDepth 100000 in
theorem token_digit (s : ByteArray) (p : Nat) (w : World) (hp : p < s.size) (hs : s.size ≤ 1048576) (hl : letter s[p] = false) (hd : digit s[p] = true) :
    Calls Tryd.prog 25 #[.string s, .int .i64 p] w fun e w' => e = .returned (pieceV (Lxn.cut (s.data.toList.drop p))) ∧ Below w.heap.size w w' := by
  have hV := cut_digit (c := s[p]) (r := s.data.toList.drop (p + 1)) hd
  rw [← drop_at s p hp] at hV
  obtain ⟨k, t, q, m, e, hsh⟩ := pieceV_shape (Lxn.cut (s.data.toList.drop p))
  have HN := Lib.hid (fun w => number_any s p w hp hs _ hV)
  rw [hsh] at HN
  have HSH := Lib.hid hsh
  clear hsh hV
  have HL := Lib.hid hl
  have HD := Lib.hid hd
  clear hl hd
  go_enter Tryd.func25, Tryd.ntmps25
  go_wp2_with fail
  refine (rletter_is _ false _ HL.out).mono ?_
  rintro e w1 ⟨rfl, rfl⟩
  go_wp2_with fail
  refine (rdigit_is _ true _ HD.out).mono ?_
  rintro e w1 ⟨rfl, rfl⟩
  go_wp2_with fail
  refine (HN.out _).mono ?_
  rintro e' w1 ⟨rfl, hb1⟩
  obtain ⟨⟨c0, c1, c2, c3, c4⟩, f0, f1, f2, f3, f4⟩ := tok_slot hb1
  have HB := Lib.hid (tok_block hb1)
  go_wp2
  refine bodyPost_ret (tok_results rfl _ _ w.heap.size _ rfl (tok_stored HB.out) rfl) rfl ?_
  exact ⟨by rw [HSH.out]; rfl, tok_stored_below (below_box hb1)⟩
set_option maxHeartbeats 1000000 in
set_option maxRecDepth 100000 in
theorem token_quote (s : ByteArray) (p : Nat) (w : World) (hp : p < s.size) (hs : s.size ≤ 1048576) (hq : s[p] = 34) :
    Calls Tryd.prog 25 #[.string s, .int .i64 p] w fun e w' => e = .returned (pieceV (Lxn.cut (s.data.toList.drop p))) ∧ Below w.heap.size w w' := by
  have hV := cut_quote (r := s.data.toList.drop (p + 1))
  rw [← hq, ← drop_at s p hp] at hV
  obtain ⟨k, t, q, m, e, hsh⟩ := pieceV_shape (Lxn.cut (s.data.toList.drop p))
  have HN := Lib.hid (fun w => text_any s p w hp hs _ hV)
  rw [hsh] at HN
  have HSH := Lib.hid hsh
  clear hsh hV
  have HL : Hid (letter s[p] = false) := by show letter s[p] = false; rw [hq]; decide
  have HD : Hid (digit s[p] = false) := by show digit s[p] = false; rw [hq]; decide
  have h34 : ((s[p].toNat : Int) == 34) = true := by rw [hq]; decide
  clear hq
  go_enter Tryd.func25, Tryd.ntmps25
  go_wp2_with fail
  refine (rletter_is _ false _ HL.out).mono ?_
  rintro e w1 ⟨rfl, rfl⟩
  go_wp2_with fail
  refine (rdigit_is _ false _ HD.out).mono ?_
  rintro e w1 ⟨rfl, rfl⟩
  go_wp2_with fail
  refine (HN.out _).mono ?_
  rintro e' w1 ⟨rfl, hb1⟩
  obtain ⟨⟨c0, c1, c2, c3, c4⟩, f0, f1, f2, f3, f4⟩ := tok_slot hb1
  have HB := Lib.hid (tok_block hb1)
  go_wp2
  refine bodyPost_ret (tok_results rfl _ _ w.heap.size _ rfl (tok_stored HB.out) rfl) rfl ?_
  exact ⟨by rw [HSH.out]; rfl, tok_stored_below (below_box hb1)⟩
theorem cut_sign {c : UInt8} {r : List UInt8} (hl : letter c = false) (hd : digit c = false) (hq : c ≠ 34) :
    Lxn.cut (c :: r) = (match Lxn.firstSign (c :: r) with | none => .inl 32 | some s => .inr (if isT s semi = true then 6 else 5, s, 0, s.size)) := by
  show (if digit c = true then _ else if letter c = true then _ else if c = 34 then _ else _) = _
  rw [hd, hl, if_neg (by decide), if_neg (by decide), if_neg hq]
  cases Lxn.firstSign (c :: r) <;> rfl
def headed (y : ByteArray) (r : List UInt8) : Bool := y.data.toList.isPrefixOf r
theorem firstSign_at {r : List UInt8} {k : Nat} (hk : k < signs.length) (h1 : ∀ j, j < k → headed (signs.getD j ByteArray.empty) r = false) (h2 : headed (signs.getD k ByteArray.empty) r = true) : Lxn.firstSign r = some (signs.getD k ByteArray.empty) := by
  unfold Lxn.firstSign
  rw [List.find?_eq_some_iff_getElem]
  refine ⟨h2, k, hk, ?_, fun j hj => ?_⟩
  · rw [List.getD_eq_getElem?_getD, List.getElem?_eq_getElem hk]; rfl
  · have := h1 j hj
    rw [List.getD_eq_getElem?_getD, List.getElem?_eq_getElem (by omega)] at this
    simpa [headed] using this
theorem firstSign_no {r : List UInt8} (h : ∀ j, j < signs.length → headed (signs.getD j ByteArray.empty) r = false) : Lxn.firstSign r = none := by
  unfold Lxn.firstSign
  rw [List.find?_eq_none]
  intro y hy
  obtain ⟨j, hj, e⟩ := Plo.mem_getD hy
  have := h j hj
  rw [e] at this
  unfold headed at this
  rw [this]; decide
theorem headed_long {s y : ByteArray} {p : Nat} (h : ¬ p + y.size ≤ s.size) (hp : p ≤ s.size) : headed y (s.data.toList.drop p) = false := by
  cases e : headed y (s.data.toList.drop p) with
  | false => rfl
  | true =>
    have h2 := (List.isPrefixOf_iff_prefix.1 e).length_le
    rw [List.length_drop] at h2
    have e1 : y.data.toList.length = y.size := rfl
    have e2 : s.data.toList.length = s.size := rfl
    omega
theorem headed_is {s y : ByteArray} {p : Nat} (h : p + y.size ≤ s.size) : headed y (s.data.toList.drop p) = ((s.extract p (p + y.size)).toList == y.toList) := by
  rw [Lib.toList_data, Lib.toList_data, slice_data]
  unfold headed
  rw [Bool.eq_iff_iff, List.isPrefixOf_iff_prefix, List.prefix_iff_eq_take, beq_iff_eq]
  exact eq_comm
theorem signs_small : ∀ s ∈ signs, s.size ≤ 2 := by decide
theorem signs_in {W w : World} {b : Nat} (h : W.heap.size = b) (e : w = W.alloc (.cells signCells 9)) : Strs w b signs := by
  subst h; subst e; exact signs_strs W
set_option maxHeartbeats 4000000 in
set_option maxRecDepth 100000 in
theorem token_sign (s : ByteArray) (p : Nat) (w : World) (hp : p < s.size) (hs : s.size ≤ 1048576) (hl : letter s[p] = false) (hd : digit s[p] = false) (hq : ((s[p].toNat : Int) == 34) = false) :
    Calls Tryd.prog 25 #[.string s, .int .i64 p] w fun e w' => e = .returned (pieceV (Lxn.cut (s.data.toList.drop p))) ∧ Below w.heap.size w w' := by
  have HC := cut_sign (c := s[p]) (r := s.data.toList.drop (p + 1)) hl hd (fun e => by rw [e] at hq; exact absurd hq (by decide))
  rw [← drop_at s p hp] at HC
  have HC := Lib.hid HC
  have HL := Lib.hid hl
  have HD := Lib.hid hd
  clear hl hd
  go_enter Tryd.func25, Tryd.ntmps25
  go_wp2_with fail
  refine (rletter_is _ false _ HL.out).mono ?_
  rintro e w1 ⟨rfl, rfl⟩
  go_wp2_with fail
  refine (rdigit_is _ false _ HD.out).mono ?_
  rintro e w1 ⟨rfl, rfl⟩
  go_wp2_with fail
  refine (rsigns_any _).mono ?_
  rintro e w1 ⟨rfl, hw1⟩
  have hb1 : Below (w.alloc (.cells #[.int .i64 0, .string ⟨#[]⟩, .int .i64 0, .int .i64 0, .int .i64 0] 42)).heap.size (w.alloc (.cells #[.int .i64 0, .string ⟨#[]⟩, .int .i64 0, .int .i64 0, .int .i64 0] 42)) w1 := by rw [hw1]; exact (Below.refl _ _).alloc (Nat.le_refl _) _
  have HS : Hid (Strs w1 (w.heap.size + 1) signs) := signs_in (by simp) hw1
  clear hw1
  go_wp2
  go_loopw [10] (fun i wr => ∃ k q : Nat, k ≤ 27 ∧ i = .int .i64 k ∧ wr = w1.drewN q ∧ Hid (∀ j, j < k → headed (signs.getD j ByteArray.empty) (s.data.toList.drop p) = false)) (fun i _ => 27 - (intOf i).toNat)
  case atStart => exact ⟨0, 0, Nat.zero_le _, rfl, rfl, fun j hj => absurd hj (by omega)⟩
  case round =>
    obtain ⟨k, q, hk, rfl, rfl, hN⟩ := hrel
    have hb2 : Below (w.alloc (.cells #[.int .i64 0, .string ⟨#[]⟩, .int .i64 0, .int .i64 0, .int .i64 0] 42)).heap.size (w.alloc (.cells #[.int .i64 0, .string ⟨#[]⟩, .int .i64 0, .int .i64 0, .int .i64 0] 42)) (w1.drewN q) := below_drewN_up hb1 q
    by_cases hlt : k < 27
    · have cm := HS.out k hlt
      obtain ⟨y, hy⟩ : ∃ y, signs.getD k ByteArray.empty = y := ⟨_, rfl⟩
      rw [hy] at cm
      have hyz : y.size ≤ 2 := by rw [← hy]; exact signs_small _ (Plo.getD_mem hlt)
      have HY := Lib.hid hy
      clear hy
      cases hin : decide ((p : Int) + (y.size : Int) ≤ (s.size : Int)) with
      | false =>
        have hin' := of_decide_eq_false hin
        have HT : Hid (∀ j, j < k + 1 → headed (signs.getD j ByteArray.empty) (s.data.toList.drop p) = false) := by
          intro j hj
          by_cases e : j = k
          · rw [e, HY.out]; exact headed_long (by omega) (by omega)
          · exact hN.out j (by omega)
        clear hN
        have hsum : IntKind.i64.wrap ((p : Int) + (y.size : Int)) = (p : Int) + (y.size : Int) := IntWalk.i64_in _ (by omega)
        clear hin'
        go_wp2_with fail
        go_quiet (fail)
        clear hsum
        go_wp2
        go_roundw
        case rel => exact ⟨k + 1, _, by omega, by go_num, rfl, HT⟩
        case measure => simp [intOf]; omega
      | true =>
        have hin' := of_decide_eq_true hin
        have hhd := headed_is (s := s) (y := y) (p := p) (by omega)
        have b0 : (0 : Int) ≤ (p : Int) := by omega
        have b1 : (p : Int) ≤ (p : Int) + (y.size : Int) := by omega
        have b3 : ((p : Int) + (y.size : Int)).toNat = p + y.size := by omega
        cases hx : ((s.extract p (p + y.size)).toList == y.toList) with
        | false =>
          have HT : Hid (∀ j, j < k + 1 → headed (signs.getD j ByteArray.empty) (s.data.toList.drop p) = false) := by
            intro j hj
            by_cases e : j = k
            · rw [e, HY.out, hhd]; exact hx
            · exact hN.out j (by omega)
          clear hN hhd
          have hsum : IntKind.i64.wrap ((p : Int) + (y.size : Int)) = (p : Int) + (y.size : Int) := IntWalk.i64_in _ (by omega)
          go_wp2_with fail
          go_quiet (fail)
          clear hsum
          go_wp2
          go_roundw
          case rel => exact ⟨k + 1, _, by omega, by go_num, rfl, HT⟩
          case measure => simp [intOf]; omega
        | true =>
          have HF := firstSign_at hlt hN.out (by rw [HY.out, hhd]; exact hx)
          rw [HY.out] at HF
          have HR : Hid (Lxn.cut (s.data.toList.drop p) = .inr (if isT y semi = true then 6 else 5, y, 0, y.size)) := by
            show _ = _
            rw [HC.out, HF]
          clear hN hhd HF
          have HB3 : Hid (∀ q, Below (w.alloc (.cells #[.int .i64 0, .string ⟨#[]⟩, .int .i64 0, .int .i64 0, .int .i64 0] 42)).heap.size (w.alloc (.cells #[.int .i64 0, .string ⟨#[]⟩, .int .i64 0, .int .i64 0, .int .i64 0] 42)) (w1.drewN q)) := fun q => below_drewN_up hb1 q
          obtain ⟨⟨c0, c1, c2, c3, c4⟩, f0, f1, f2, f3, f4⟩ := tok_slot hb1
          clear hb2 hb1
          have hsum : IntKind.i64.wrap ((p : Int) + (y.size : Int)) = (p : Int) + (y.size : Int) := IntWalk.i64_in _ (by omega)
          cases hsm : (y.toList == [59]) with
          | true =>
            have HV : Hid (pieceV (Lxn.cut (s.data.toList.drop p)) = pieceV (.inr (6, ⟨#[59]⟩, 0, y.size))) := by
              have hys : y = ⟨#[59]⟩ := Plo.ba_ext (by rw [← Lib.toList_data]; exact eq_of_beq hsm)
              have h1 : isT y semi = true := by rw [hys]; decide
              show _ = _
              rw [HR.out, h1, if_pos rfl]
              congr 4
            go_wp2_with fail
            go_quiet (fail)
            clear hsum
            have HB := Lib.hid (tok_block (HB3.out (q + nq)))
            go_wp2
            refine bodyPost_ret (tok_results rfl _ _ w.heap.size _ rfl (tok_stored HB.out) rfl) rfl ?_
            exact ⟨by rw [HV.out]; rfl, tok_stored_below (below_box (HB3.out _))⟩
          | false =>
            have HV : Hid (pieceV (Lxn.cut (s.data.toList.drop p)) = pieceV (.inr (5, y, 0, y.size))) := by
              have h1 : isT y semi = false := by
                cases e : isT y semi with
                | false => rfl
                | true =>
                  have := eq_of_beq e
                  rw [Lib.toList_data, this] at hsm
                  exact absurd hsm (by decide)
              show _ = _
              rw [HR.out, h1, if_neg (by decide)]
            go_wp2_with fail
            go_quiet (fail)
            clear hsum
            have HB := Lib.hid (tok_block (HB3.out (q + nq)))
            go_wp2
            refine bodyPost_ret (tok_results rfl _ _ w.heap.size _ rfl (tok_stored HB.out) rfl) rfl ?_
            exact ⟨by rw [HV.out]; rfl, tok_stored_below (below_box (HB3.out _))⟩
    · have HR : Hid (Lxn.cut (s.data.toList.drop p) = .inl 32) := by
        show _ = _
        rw [HC.out, firstSign_no fun j hj => hN.out j (by rw [signs_length] at hj; omega)]
      obtain ⟨⟨c0, c1, c2, c3, c4⟩, f0, f1, f2, f3, f4⟩ := tok_slot hb2
      have HB := Lib.hid (tok_block hb2)
      clear hN
      go_wp2
      refine bodyPost_ret (tok_results rfl _ _ w.heap.size _ rfl (tok_stored HB.out) rfl) rfl ?_
      exact ⟨by rw [HR.out]; rfl, tok_stored_below (below_box hb2)⟩
end Go.Proofs.YtjmgfhbadnechaaDoor.Lru
