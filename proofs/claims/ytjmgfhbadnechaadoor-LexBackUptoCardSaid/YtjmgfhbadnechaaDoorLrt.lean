/- drowseref03.name, number, text, token. -/
import Derived.Test.YtjmgfhbadnechaaDoorLrc
import Derived.Test.YtjmgfhbadnechaaDoorRnu
import Derived.Test.YtjmgfhbadnechaaDoorRun
set_option linter.unusedVariables false
namespace Go.Proofs.YtjmgfhbadnechaaDoor.Lrt
open Go.RowKit Wrd Nam Lxp Lxw Lxr Lrs

/-- How a piece is told. -/
def pieceV : Int ⊕ Lxn.Piece → Value
  | .inl e => .tuple #[.agg #[.int .i64 0, .string ⟨#[]⟩, .int .i64 0, .int .i64 0, .int .i64 0], .int .i64 0, .int .i64 e]
  | .inr (k, t, q, m) => .tuple #[.agg #[.int .i64 k, .string t, .int .i64 q, .int .i64 0, .int .i64 0], .int .i64 m, .int .i64 0]
/-- The cells of a token that the call itself laid, behind other calls. -/
theorem tok_slot {w w1 : World} {k n p l : Int} {t : ByteArray} (hb : Below (w.alloc (.cells #[.int .i64 k, .string t, .int .i64 n, .int .i64 p, .int .i64 l] 42)).heap.size (w.alloc (.cells #[.int .i64 k, .string t, .int .i64 n, .int .i64 p, .int .i64 l] 42)) w1) :
    (w1.cell? ⟨w.heap.size, 0, none⟩ = some (.int .i64 k) ∧ w1.cell? ⟨w.heap.size, 1, none⟩ = some (.string t) ∧ w1.cell? ⟨w.heap.size, 2, none⟩ = some (.int .i64 n) ∧ w1.cell? ⟨w.heap.size, 3, none⟩ = some (.int .i64 p) ∧ w1.cell? ⟨w.heap.size, 4, none⟩ = some (.int .i64 l)) ∧
    w1.frozen? ⟨w.heap.size, 0, none⟩ = false ∧ w1.frozen? ⟨w.heap.size, 1, none⟩ = false ∧ w1.frozen? ⟨w.heap.size, 2, none⟩ = false ∧ w1.frozen? ⟨w.heap.size, 3, none⟩ = false ∧ w1.frozen? ⟨w.heap.size, 4, none⟩ = false := by
  have hl : w.heap.size < (w.alloc (.cells #[.int .i64 k, .string t, .int .i64 n, .int .i64 p, .int .i64 l] 42)).heap.size := by simp
  refine ⟨⟨(hb.cell (p := ⟨w.heap.size, 0, none⟩) hl).trans ?_, (hb.cell (p := ⟨w.heap.size, 1, none⟩) hl).trans ?_, (hb.cell (p := ⟨w.heap.size, 2, none⟩) hl).trans ?_, (hb.cell (p := ⟨w.heap.size, 3, none⟩) hl).trans ?_, (hb.cell (p := ⟨w.heap.size, 4, none⟩) hl).trans ?_⟩,
    (hb.frozen (p := ⟨w.heap.size, 0, none⟩) hl).trans ?_, (hb.frozen (p := ⟨w.heap.size, 1, none⟩) hl).trans ?_, (hb.frozen (p := ⟨w.heap.size, 2, none⟩) hl).trans ?_, (hb.frozen (p := ⟨w.heap.size, 3, none⟩) hl).trans ?_, (hb.frozen (p := ⟨w.heap.size, 4, none⟩) hl).trans ?_⟩
  all_goals simp
/-- A token in memory and two numbers, as results. -/
theorem tok_results {fn : Func} {p u v : Tmp} (h : fn.results = #[.cell p 42, .tmp u, .tmp v]) (tmps : Array Value) (w : World) (g : Nat) (cs : Array Value)
    (hp : tmps.getD p undef = .pointer (some ⟨g, 0, none⟩)) (hg : w.heap[g]? = some (.cells cs 42 (0, 0))) (hs : cs.size = 5) :
    (results fn tmps).run Tryd.prog w = .ok (.tuple #[.agg cs, tmps.getD u undef, tmps.getD v undef]) w := by
  have hp' : tmps[p]?.getD undef = .pointer (some ⟨g, 0, none⟩) := by simpa using hp
  have hi : (Tryd.prog.info? 42).map (·.size) = some cs.size := by rw [hs]; kernel_rfl
  simp [results, h, hp', asAddr, run_loadVar_row w g 42 42 cs (0, 0) _ hg Tryd.underlying42 rfl hi]
/-- The block of a token that the call itself laid, behind other calls. -/
theorem tok_block {w w1 : World} {cs : Array Value} (hb : Below (w.alloc (.cells cs 42)).heap.size (w.alloc (.cells cs 42)) w1) : w1.heap[w.heap.size]? = some (.cells cs 42 (0, 0)) :=
  (hb.block w.heap.size (by simp)).trans (heap_alloc_new w _)
/-- Five stores into it. -/
theorem tok_stored {w : World} {g : Nat} {a b c d e a' b' c' d' e' : Value} (h : w.heap[g]? = some (.cells #[a, b, c, d, e] 42 (0, 0))) :
    (((((w.setCell ⟨g, 0, none⟩ a').setCell ⟨g, 1, none⟩ b').setCell ⟨g, 2, none⟩ c').setCell ⟨g, 3, none⟩ d').setCell ⟨g, 4, none⟩ e').heap[g]? = some (.cells #[a', b', c', d', e'] 42 (0, 0)) :=
  heap_setCell_same _ g 4 _ _ _ (heap_setCell_same _ g 3 _ _ _ (heap_setCell_same _ g 2 _ _ _ (heap_setCell_same _ g 1 _ _ _ (heap_setCell_same _ g 0 _ _ _ h))))
theorem tok_stored_below {w w1 : World} {a' b' c' d' e' : Value} (h : Below w.heap.size w w1) :
    Below w.heap.size w (((((w1.setCell ⟨w.heap.size, 0, none⟩ a').setCell ⟨w.heap.size, 1, none⟩ b').setCell ⟨w.heap.size, 2, none⟩ c').setCell ⟨w.heap.size, 3, none⟩ d').setCell ⟨w.heap.size, 4, none⟩ e') :=
  ((((h.setCell (p := ⟨w.heap.size, 0, none⟩) (Nat.le_refl _) _).setCell (p := ⟨w.heap.size, 1, none⟩) (Nat.le_refl _) _).setCell (p := ⟨w.heap.size, 2, none⟩) (Nat.le_refl _) _).setCell (p := ⟨w.heap.size, 3, none⟩) (Nat.le_refl _) _).setCell (p := ⟨w.heap.size, 4, none⟩) (Nat.le_refl _) _
theorem slice_data (s : ByteArray) (p n : Nat) : (s.extract p (p + n)).data.toList = (s.data.toList.drop p).take n := by
  rw [Lib.extract_data, Nat.add_sub_cancel_left]
theorem slice_is (s : ByteArray) (p n : Nat) : s.extract p (p + n) = ⟨((s.data.toList.drop p).take n).toArray⟩ := Plo.ba_ext (slice_data s p n)
set_option maxHeartbeats 1000000 in
set_option maxRecDepth 100000 in
/-- Behind a letter: a word or a name. -/
theorem name_any (s : ByteArray) (p : Nat) (w : World) (hp : p < s.size) (hs : s.size ≤ 1048576) (V : Value)
    (hV : (if Plo.isWord ⟨((s.data.toList.drop p).take (Lxn.run (s.data.toList.drop p))).toArray⟩ = true then pieceV (.inr (2, ⟨((s.data.toList.drop p).take (Lxn.run (s.data.toList.drop p))).toArray⟩, 0, Lxn.run (s.data.toList.drop p)))
      else if 30 < Lxn.run (s.data.toList.drop p) then pieceV (.inl 35) else pieceV (.inr (1, ⟨((s.data.toList.drop p).take (Lxn.run (s.data.toList.drop p))).toArray⟩, 0, Lxn.run (s.data.toList.drop p)))) = V) :
    Calls Tryd.prog 47 #[.string s, .int .i64 p] w fun e w' => e = .returned V ∧ Below w.heap.size w w' := by
  obtain ⟨n, hn⟩ : ∃ n, Lxn.run (s.data.toList.drop p) = n := ⟨_, rfl⟩
  rw [hn, ← slice_is] at hV
  have hpn : p + n ≤ s.size := by
    have := Lxn.run_le (s.data.toList.drop p)
    rw [hn, List.length_drop] at this
    have e : s.data.toList.length = s.size := rfl
    omega
  have HN := Lib.hid hn
  clear hn
  obtain ⟨X, hX⟩ : ∃ X, s.extract p (p + n) = X := ⟨_, rfl⟩
  rw [hX] at hV
  cases hw : Plo.isWord X with
  | true =>
    have HV : Hid (pieceV (.inr (2, X, 0, n)) = V) := by rw [hw] at hV; exact hV
    have HW := Lib.hid hw
    clear hV hw
    have b0 : (0 : Int) ≤ (p : Int) := by omega
    have b1 : (p : Int) ≤ (p : Int) + (n : Int) := by omega
    have b2 : (p : Int) + (n : Int) ≤ (s.size : Int) := by omega
    have b3 : ((p : Int) + (n : Int)).toNat = p + n := by omega
    go_enter Tryd.func47, Tryd.ntmps47
    go_wp2_with fail
    refine (run_is s p n _ (by omega) hs HN.out).mono ?_
    rintro e w1 ⟨rfl, rfl⟩
    go_wp2_with fail
    refine (rword_is X true _ HW.out).mono ?_
    rintro e w1 ⟨rfl, hb1⟩
    obtain ⟨⟨c0, c1, c2, c3, c4⟩, f0, f1, f2, f3, f4⟩ := tok_slot hb1
    have HB := Lib.hid (tok_block hb1)
    go_wp2
    refine bodyPost_ret (tok_results rfl _ _ w.heap.size _ rfl (tok_stored HB.out) rfl) rfl ?_
    exact ⟨by rw [← HV.out]; rfl, tok_stored_below (below_box hb1)⟩
  | false =>
  cases h30 : decide ((30 : Int) < (n : Int)) with
  | true =>
    have h30' := of_decide_eq_true h30
    have HV : Hid (pieceV (.inl 35) = V) := by rw [hw, if_neg (by decide), if_pos (by omega)] at hV; exact hV
    have HW := Lib.hid hw
    clear hV hw
    have b0 : (0 : Int) ≤ (p : Int) := by omega
    have b1 : (p : Int) ≤ (p : Int) + (n : Int) := by omega
    have b2 : (p : Int) + (n : Int) ≤ (s.size : Int) := by omega
    have b3 : ((p : Int) + (n : Int)).toNat = p + n := by omega
    go_enter Tryd.func47, Tryd.ntmps47
    go_wp2_with fail
    refine (run_is s p n _ (by omega) hs HN.out).mono ?_
    rintro e w1 ⟨rfl, rfl⟩
    go_wp2_with fail
    refine (rword_is X false _ HW.out).mono ?_
    rintro e w1 ⟨rfl, hb1⟩
    obtain ⟨⟨c0, c1, c2, c3, c4⟩, f0, f1, f2, f3, f4⟩ := tok_slot hb1
    have HB := Lib.hid (tok_block hb1)
    go_wp2
    refine bodyPost_ret (tok_results rfl _ _ w.heap.size _ rfl (tok_stored HB.out) rfl) rfl ?_
    exact ⟨by rw [← HV.out]; rfl, tok_stored_below (below_box hb1)⟩
  | false =>
    have h30' := of_decide_eq_false h30
    have HV : Hid (pieceV (.inr (1, X, 0, n)) = V) := by rw [hw, if_neg (by decide), if_neg (by omega)] at hV; exact hV
    have HW := Lib.hid hw
    clear hV hw
    have b0 : (0 : Int) ≤ (p : Int) := by omega
    have b1 : (p : Int) ≤ (p : Int) + (n : Int) := by omega
    have b2 : (p : Int) + (n : Int) ≤ (s.size : Int) := by omega
    have b3 : ((p : Int) + (n : Int)).toNat = p + n := by omega
    go_enter Tryd.func47, Tryd.ntmps47
    go_wp2_with fail
    refine (run_is s p n _ (by omega) hs HN.out).mono ?_
    rintro e w1 ⟨rfl, rfl⟩
    go_wp2_with fail
    refine (rword_is X false _ HW.out).mono ?_
    rintro e w1 ⟨rfl, hb1⟩
    obtain ⟨⟨c0, c1, c2, c3, c4⟩, f0, f1, f2, f3, f4⟩ := tok_slot hb1
    have HB := Lib.hid (tok_block hb1)
    go_wp2
    refine bodyPost_ret (tok_results rfl _ _ w.heap.size _ rfl (tok_stored HB.out) rfl) rfl ?_
    exact ⟨by rw [← HV.out]; rfl, tok_stored_below (below_box hb1)⟩
set_option maxHeartbeats 1000000 in
set_option maxRecDepth 100000 in
/-- Behind a digit: a number. -/
theorem number_any (s : ByteArray) (p : Nat) (w : World) (hp : p < s.size) (hs : s.size ≤ 1048576) (V : Value)
    (hV : (if (Pnu.parse ((s.data.toList.drop p).take (Lxn.run (s.data.toList.drop p)))).2 = 0 then pieceV (.inr (3, ⟨#[]⟩, (Pnu.parse ((s.data.toList.drop p).take (Lxn.run (s.data.toList.drop p)))).1, Lxn.run (s.data.toList.drop p))) else pieceV (.inl 33)) = V) :
    Calls Tryd.prog 48 #[.string s, .int .i64 p] w fun e w' => e = .returned V ∧ Below w.heap.size w w' := by
  obtain ⟨n, hn⟩ : ∃ n, Lxn.run (s.data.toList.drop p) = n := ⟨_, rfl⟩
  rw [hn] at hV
  have hpn : p + n ≤ s.size := by
    have := Lxn.run_le (s.data.toList.drop p)
    rw [hn, List.length_drop] at this
    have e : s.data.toList.length = s.size := rfl
    omega
  have HN := Lib.hid hn
  clear hn
  obtain ⟨X, hX⟩ : ∃ X, s.extract p (p + n) = X := ⟨_, rfl⟩
  have hXd := slice_data s p n
  rw [hX] at hXd
  rw [← hXd] at hV
  have hXs : X.size ≤ 35184372088832 := by
    have e1 : X.data.toList.length = X.size := rfl
    have e2 : s.data.toList.length = s.size := rfl
    rw [hXd, List.length_take, List.length_drop] at e1
    omega
  clear hXd
  obtain ⟨v, e, hve⟩ : ∃ v e, Pnu.parse X.data.toList = (v, e) := ⟨_, _, rfl⟩
  rw [hve] at hV
  have CP : Hid (∀ w, Calls Tryd.prog 67 #[.string X] w fun e' w' => e' = .returned (.tuple #[.int .i64 v, .int .i64 e]) ∧ w = w') := fun w => (Rnu.parse_any X w hXs).mono fun _ _ h => by rw [hve] at h; exact h
  clear hve
  cases h0 : (e == 0) with
  | true =>
    obtain rfl := eq_of_beq h0
    have HV : Hid (pieceV (.inr (3, ⟨#[]⟩, v, n)) = V) := hV
    clear hV h0
    have b0 : (0 : Int) ≤ (p : Int) := by omega
    have b1 : (p : Int) ≤ (p : Int) + (n : Int) := by omega
    have b2 : (p : Int) + (n : Int) ≤ (s.size : Int) := by omega
    have b3 : ((p : Int) + (n : Int)).toNat = p + n := by omega
    go_enter Tryd.func48, Tryd.ntmps48
    go_wp2_with fail
    refine (run_is s p n _ (by omega) hs HN.out).mono ?_
    rintro e w1 ⟨rfl, rfl⟩
    go_wp2_with fail
    refine (CP.out _).mono ?_
    rintro e w1 ⟨rfl, rfl⟩
    obtain ⟨w1, hw1⟩ : ∃ w1, w1 = w.alloc (.cells #[.int .i64 0, .string ⟨#[]⟩, .int .i64 0, .int .i64 0, .int .i64 0] 42) := ⟨_, rfl⟩
    have hb1 : Below (w.alloc (.cells #[.int .i64 0, .string ⟨#[]⟩, .int .i64 0, .int .i64 0, .int .i64 0] 42)).heap.size (w.alloc (.cells #[.int .i64 0, .string ⟨#[]⟩, .int .i64 0, .int .i64 0, .int .i64 0] 42)) w1 := by rw [hw1]; exact Below.refl _ _
    rw [← hw1]
    clear hw1
    obtain ⟨⟨c0, c1, c2, c3, c4⟩, f0, f1, f2, f3, f4⟩ := tok_slot hb1
    have HB := Lib.hid (tok_block hb1)
    go_wp2
    refine bodyPost_ret (tok_results rfl _ _ w.heap.size _ rfl (tok_stored HB.out) rfl) rfl ?_
    exact ⟨by rw [← HV.out]; rfl, tok_stored_below (below_box hb1)⟩
  | false =>
    have h0' : (e != 0) = true := by unfold bne; rw [h0]; rfl
    have HV : Hid (pieceV (.inl 33) = V) := by rw [if_neg (by simpa using h0)] at hV; exact hV
    clear hV
    have b0 : (0 : Int) ≤ (p : Int) := by omega
    have b1 : (p : Int) ≤ (p : Int) + (n : Int) := by omega
    have b2 : (p : Int) + (n : Int) ≤ (s.size : Int) := by omega
    have b3 : ((p : Int) + (n : Int)).toNat = p + n := by omega
    go_enter Tryd.func48, Tryd.ntmps48
    go_wp2_with fail
    refine (run_is s p n _ (by omega) hs HN.out).mono ?_
    rintro e w1 ⟨rfl, rfl⟩
    go_wp2_with fail
    refine (CP.out _).mono ?_
    rintro e w1 ⟨rfl, rfl⟩
    obtain ⟨w1, hw1⟩ : ∃ w1, w1 = w.alloc (.cells #[.int .i64 0, .string ⟨#[]⟩, .int .i64 0, .int .i64 0, .int .i64 0] 42) := ⟨_, rfl⟩
    have hb1 : Below (w.alloc (.cells #[.int .i64 0, .string ⟨#[]⟩, .int .i64 0, .int .i64 0, .int .i64 0] 42)).heap.size (w.alloc (.cells #[.int .i64 0, .string ⟨#[]⟩, .int .i64 0, .int .i64 0, .int .i64 0] 42)) w1 := by rw [hw1]; exact Below.refl _ _
    rw [← hw1]
    clear hw1
    obtain ⟨⟨c0, c1, c2, c3, c4⟩, f0, f1, f2, f3, f4⟩ := tok_slot hb1
    have HB := Lib.hid (tok_block hb1)
    go_wp2
    refine bodyPost_ret (tok_results rfl _ _ w.heap.size _ rfl (tok_stored HB.out) rfl) rfl ?_
    exact ⟨by rw [← HV.out]; rfl, tok_stored_below (below_box hb1)⟩
theorem rest_is (s : ByteArray) (p : Nat) : (s.extract p s.size).data.toList = s.data.toList.drop p := by
  rw [Lib.extract_data]
  exact List.take_of_length_le (by rw [List.length_drop]; exact Nat.le_refl _)
/-- Behind a quote: a text. -/
def textV (o : Option (List UInt8 × Nat)) : Value := match o with
  | none => pieceV (.inl 34)
  | some (t, k) => pieceV (.inr (4, ⟨t.toArray⟩, 0, k))
set_option maxHeartbeats 1000000 in
set_option maxRecDepth 100000 in
theorem text_any (s : ByteArray) (p : Nat) (w : World) (hp : p < s.size) (hs : s.size ≤ 1048576) (V : Value)
    (hV : textV (Plw.unquote (s.data.toList.drop p)) = V) :
    Calls Tryd.prog 49 #[.string s, .int .i64 p] w fun e w' => e = .returned V ∧ Below w.heap.size w w' := by
  obtain ⟨X, hX⟩ : ∃ X, s.extract p s.size = X := ⟨_, rfl⟩
  have hXd := rest_is s p
  rw [hX] at hXd
  rw [← hXd] at hV
  have hXs : X.size ≤ 35184372088832 := by
    have e1 : X.data.toList.length = X.size := rfl
    have e2 : s.data.toList.length = s.size := rfl
    rw [hXd, List.length_drop] at e1
    omega
  clear hXd
  have b0 : (0 : Int) ≤ (p : Int) := by omega
  have b1 : (p : Int) ≤ (s.size : Int) := by omega
  have C0 := fun w => Run.unquote_any X w hXs
  cases hu : Plw.unquote X.data.toList with
  | none =>
    rw [hu] at C0 hV
    have C : Hid (∀ w, Calls Tryd.prog 32 #[.string X] w fun e w' => e = .returned (.tuple #[.string ⟨#[]⟩, .int .i64 0, .int .i64 21]) ∧ Below w.heap.size w w') := C0
    have HV := Lib.hid hV
    clear C0 hV hu
    go_enter Tryd.func49, Tryd.ntmps49
    go_wp2_with fail
    refine (C.out _).mono ?_
    rintro e w1 ⟨rfl, hb1⟩
    obtain ⟨⟨c0, c1, c2, c3, c4⟩, f0, f1, f2, f3, f4⟩ := tok_slot hb1
    have HB := Lib.hid (tok_block hb1)
    go_wp2
    refine bodyPost_ret (tok_results rfl _ _ w.heap.size _ rfl (tok_stored HB.out) rfl) rfl ?_
    exact ⟨by rw [← HV.out]; rfl, tok_stored_below (below_box hb1)⟩
  | some tk =>
    obtain ⟨t, k⟩ := tk
    rw [hu] at C0 hV
    have C : Hid (∀ w, Calls Tryd.prog 32 #[.string X] w fun e w' => e = .returned (.tuple #[.string ⟨t.toArray⟩, .int .i64 k, .int .i64 0]) ∧ Below w.heap.size w w') := C0
    have HV := Lib.hid hV
    clear C0 hV hu
    go_enter Tryd.func49, Tryd.ntmps49
    go_wp2_with fail
    refine (C.out _).mono ?_
    rintro e w1 ⟨rfl, hb1⟩
    obtain ⟨⟨c0, c1, c2, c3, c4⟩, f0, f1, f2, f3, f4⟩ := tok_slot hb1
    have HB := Lib.hid (tok_block hb1)
    go_wp2
    refine bodyPost_ret (tok_results rfl _ _ w.heap.size _ rfl (tok_stored HB.out) rfl) rfl ?_
    exact ⟨by rw [← HV.out]; rfl, tok_stored_below (below_box hb1)⟩
end Go.Proofs.YtjmgfhbadnechaaDoor.Lrt
