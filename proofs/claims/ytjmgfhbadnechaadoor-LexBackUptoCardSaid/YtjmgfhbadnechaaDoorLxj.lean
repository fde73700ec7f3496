/- Tokens in memory; drowseref03.Join. -/
import Derived.Test.YtjmgfhbadnechaaDoorLxr
import Derived.Test.YtjmgfhbadnechaaDoorAps
import Derived.Lib.ItoaLen
import Derived.Lib.Join
set_option linter.unusedVariables false
namespace Go.Proofs.YtjmgfhbadnechaaDoor.Lxj
open Go.RowKit Wrd Nam Env Num Lxp Lxw Lxv Lxr App Aps

/-- Where a token lies. -/
structure TokAt (w : World) (b o : Nat) (t : Tok) : Prop where
  c0 : w.cell? ⟨b, o, none⟩ = some (.int .i64 t.kind)
  c1 : w.cell? ⟨b, o + 1, none⟩ = some (.string t.text)
  c2 : w.cell? ⟨b, o + 2, none⟩ = some (.int .i64 t.num)
  c3 : w.cell? ⟨b, o + 3, none⟩ = some (.int .i64 t.pos)
  c4 : w.cell? ⟨b, o + 4, none⟩ = some (.int .i64 t.line)
/-- A list of tokens in memory. -/
def Toks (w : World) (b o : Nat) (l : List Tok) : Prop := ∀ j, j < l.length → TokAt w b (o + j * 5) (l.getD j zero)
theorem TokAt.below {w w' : World} {b o : Nat} {t : Tok} {B : Nat} (h : TokAt w b o t) (hb : Below B w w') (hB : b < B) : TokAt w' b o t :=
  ⟨(hb.cell (p := ⟨b, o, none⟩) hB).trans h.c0, (hb.cell (p := ⟨b, o + 1, none⟩) hB).trans h.c1, (hb.cell (p := ⟨b, o + 2, none⟩) hB).trans h.c2, (hb.cell (p := ⟨b, o + 3, none⟩) hB).trans h.c3, (hb.cell (p := ⟨b, o + 4, none⟩) hB).trans h.c4⟩
theorem Toks.below {w w' : World} {b o : Nat} {l : List Tok} {B : Nat} (h : Toks w b o l) (hb : Below B w w') (hB : b < B) : Toks w' b o l := fun j hj => (h j hj).below hb hB

/-- The text of token k. -/
def txt (l : List Tok) (k : Nat) : Option ByteArray := rwritten (l.getD k zero) (decide (k + 1 = l.length))
/-- The texts of the first k tokens, a blank between. -/
def acc (l : List Tok) : Nat → List UInt8
  | 0 => []
  | k + 1 => acc l k ++ (if k = 0 then [] else [32]) ++ ((txt l k).getD ByteArray.empty).data.toList
def fine (l : List Tok) : Bool := (List.range l.length).all (fun k => (txt l k).isSome)
def joined (l : List Tok) : Option ByteArray := if fine l then some ⟨(acc l l.length).toArray⟩ else none
/-- How Join answers. -/
def outcome : Option ByteArray → Ending
  | some s => .returned (.tuple #[.string s, .int .i64 0])
  | none => .returned (.tuple #[.string ⟨#[]⟩, .int .i64 1])

theorem outcome_some {l : List Tok} (h : ∀ j, j < l.length → (txt l j).isSome = true) : joined l = some ⟨(acc l l.length).toArray⟩ := by
  have : fine l = true := List.all_eq_true.2 fun k hk => h k (List.mem_range.1 hk)
  simp [joined, this]
theorem outcome_none {l : List Tok} {k : Nat} (hk : k < l.length) (h : txt l k = none) : joined l = none := by
  have : fine l = false := by
    cases e : fine l with
    | false => rfl
    | true =>
      have := List.all_eq_true.1 e k (List.mem_range.2 hk)
      rw [h] at this; exact absurd this (by decide)
  simp [joined, this]
def Tok.fits (t : Tok) : Prop := -9223372036854775808 ≤ t.num ∧ t.num ≤ 9223372036854775807 ∧ t.text.size ≤ 1048576
theorem Tok.fits.ok {t : Tok} (h : Tok.fits t) : Tok.ok t := ⟨h.1, h.2.1, Nat.le_trans h.2.2 (by decide)⟩
def Fits (l : List Tok) : Prop := l.length ≤ 1048576 ∧ ∀ j, j < l.length → Tok.fits (l.getD j zero)
theorem written_size {t : Tok} {s : ByteArray} (hf : Tok.fits t) (h : Lxp.written t = some s) : s.size ≤ 2097174 := by
  obtain ⟨k, x, n, p, l⟩ := t
  obtain ⟨h0, h1, h2⟩ := hf
  simp only at h0 h1 h2
  unfold Lxp.written at h
  simp only at h
  split at h
  · cases h; decide
  split at h
  · split at h
    · cases h; omega
    · cases h
  split at h
  · split at h
    · cases h; omega
    · cases h
  split at h
  · split at h
    · cases h
      have := Lib.itoa_length_le n h0 h1
      show (Lib.itoa n).length ≤ _
      omega
    · cases h
  split at h
  · cases h
    show (Plw.quote x.data.toList).length ≤ _
    have := Plw.escs_le x.data.toList
    have e : x.data.toList.length = x.size := rfl
    simp only [Plw.quote, List.length_append, List.length_cons, List.length_nil]
    omega
  split at h
  · split at h
    · cases h; omega
    · cases h
  split at h
  · split at h
    · cases h; decide
    · cases h
  cases h
theorem txt_size {l : List Tok} {k : Nat} {s : ByteArray} (hf : Tok.fits (l.getD k zero)) (h : txt l k = some s) : s.size ≤ 2097174 := by
  unfold txt rwritten at h
  split at h
  · cases h
  · exact written_size hf h
theorem acc_length {l : List Tok} (hf : Fits l) : ∀ k, k ≤ l.length → (acc l k).length ≤ k * 2097175 := by
  intro k
  induction k with
  | zero => intro _; simp [acc]
  | succ k ih =>
    intro hk
    have h1 := ih (by omega)
    have h2 : ((txt l k).getD ByteArray.empty).data.toList.length ≤ 2097174 := by
      cases e : txt l k with
      | none => simp
      | some s => exact txt_size (hf.2 k (by omega)) e
    have h3 : (if k = 0 then ([] : List UInt8) else [32]).length ≤ 1 := by split <;> simp
    simp only [acc, List.length_append]
    omega
theorem acc_room {l : List Tok} (hf : Fits l) (k : Nat) (hk : k ≤ l.length) : (acc l k).length + 2097180 ≤ 140737488355328 := by
  have h1 := acc_length hf k hk
  have h2 := hf.1
  have h3 : k * 2097175 ≤ 1048576 * 2097175 := Nat.mul_le_mul_right _ (by omega)
  omega

theorem Own.below {B B' : Nat} {v : Value} {l : List UInt8} {w w' : World} (h : Own B v l w) (hb : Below B' w w') (hB : w.heap.size ≤ B') : Own B v l w' := by
  refine ⟨h.1, h.2.imp id ?_⟩
  rintro ⟨g, cap, cur, hv, h0, h1, h2⟩
  refine ⟨g, cap, cur, hv, h0, ?_, h2⟩
  have hg : g < w.heap.size := (Array.getElem?_eq_some_iff.1 h1).1
  rw [hb.block g (by omega)]; exact h1
theorem last_dec (k n : Nat) (h : n ≤ 1048576) : ((k : Int) == (n : Int) - 1) = decide (k + 1 = n) := by
  by_cases e : k + 1 = n
  · rw [decide_eq_true e, beq_iff_eq]; omega
  · rw [decide_eq_false e]; exact beq_false_of_ne (by omega)

set_option maxHeartbeats 4000000 in
set_option maxRecDepth 100000 in
theorem rjoin_some (b o c : Nat) (l : List Tok) (w : World) (hf : Hid (Fits l)) (ht : Hid (Toks w b o l)) (hb : b < w.heap.size) :
    Calls Tryd.prog 9 #[.slice (some ⟨b, o, none⟩) l.length c] w fun e w' => e = outcome (joined l) ∧ Below w.heap.size w w' := by
  have hl := hf.out.1
  go_enter Tryd.func9, Tryd.ntmps9
  go_wp2
  go_loopw [4, 5] (fun v i wr => ∃ k : Nat, k ≤ l.length ∧ i = .int .i64 k ∧ Own w.heap.size v (acc l k) wr ∧ Below w.heap.size w wr ∧ Hid (∀ j, j < k → (txt l j).isSome = true)) (fun _ i _ => l.length - (intOf i).toNat)
  case atStart => exact ⟨0, Nat.zero_le _, rfl, Own.nil _ _, Below.refl _ _, fun j hj => absurd hj (by omega)⟩
  case round =>
    obtain ⟨k, hk, rfl, hI, hbw, hN⟩ := hrel
    have hsz := hbw.size
    by_cases hlt : k < l.length
    · obtain ⟨t, hT⟩ : ∃ t, l.getD k zero = t := ⟨_, rfl⟩
      have hat := (ht.out k hlt).below hbw hb
      rw [hT] at hat
      have hok : Hid (Tok.ok t) := by rw [← hT]; exact (hf.out.2 k hlt).ok
      have HT := Lib.hid hT
      clear hT
      obtain ⟨c0, c1, c2, c3, c4⟩ := hat
      obtain ⟨A1, cp1, rfl⟩ := hI.shape
      have HI := Lib.hid hI
      clear hI
      go_wp2_with fail
      refine (rwritten_any t _ wr hok.out).mono ?_
      rintro e w1 ⟨⟨s, bb, rfl, hW⟩, hb1⟩
      rw [last_dec k l.length hl] at hW
      have hW2 : txt l k = some s ∧ bb = true ∨ txt l k = none ∧ bb = false := by
        unfold txt; rw [HT.out]; exact hW
      clear hW c0 c1 c2 c3 c4
      have hsz1 := hb1.size
      have hsz2 : w.heap.size ≤ w1.heap.size := by omega
      have hb2 : Below w.heap.size w w1 := hbw.trans (hb1.mono hsz)
      rcases hW2 with ⟨hs, rfl⟩ | ⟨hs, rfl⟩
      · have hI1 := Own.below HI.out hb1 (Nat.le_refl _)
        have hsS := txt_size (hf.out.2 k hlt) hs
        have hroom := acc_room hf.out k hk
        have HN2 : Hid (∀ j, j < k + 1 → (txt l j).isSome = true) := by
          intro j hj
          by_cases e : j = k
          · rw [e, hs]; rfl
          · exact hN.out j (by omega)
        clear HI
        cases hk0 : decide (0 < k) with
        | true =>
          have hk0' : 0 < k := of_decide_eq_true hk0
          have HA : Hid (acc l (k + 1) = (acc l k ++ [32]) ++ s.data.toList) := by
            show acc l k ++ (if k = 0 then [] else [32]) ++ ((txt l k).getD ByteArray.empty).data.toList = _
            rw [if_neg (by omega), hs]; rfl
          clear hs hN hk0
          obtain ⟨L2, hL2⟩ : ∃ L2, L2 = acc l k ++ [32] := ⟨_, rfl⟩
          have hL3 : L2.length = (acc l k).length + 1 := by rw [hL2]; simp
          rw [← hL2] at HA
          have HL := Lib.hid hL2
          clear hL2
          have HL3 := Lib.hid hL3
          clear hL3
          go_wp2_with (at_builtin; first
            | (go_loud (refine wpList_app rfl _ _ rfl w.heap.size _ _ w1 hI1 rfl [32] _ rfl _ _ rfl rfl (by simp only [List.length_cons, List.length_nil]; omega) hsz2 ?_; intro v2 w2 hI2 hb3; rw [← HL.out] at hI2; obtain ⟨A2, cp2, rfl⟩ := hI2.shape; have hsz3 := hb3.size))
            | (go_loud (refine wpList_appS rfl _ _ rfl w.heap.size _ _ w2 hI2 rfl s rfl (by have := HL3.out; omega) (by omega) ?_; intro v3 w3 hI3 hb4)))
          rw [← HA.out] at hI3
          obtain ⟨A3, cp3, rfl⟩ := hI3.shape
          go_wp2
          go_roundw
          case rel => exact ⟨k + 1, by omega, by go_num, hI3, (hb2.trans hb3).trans hb4, HN2⟩
          case measure => simp [intOf]; omega
        | false =>
          have hk0' : k = 0 := by have := of_decide_eq_false hk0; omega
          have HA : Hid (acc l (k + 1) = acc l k ++ s.data.toList) := by
            show acc l k ++ (if k = 0 then [] else [32]) ++ ((txt l k).getD ByteArray.empty).data.toList = _
            rw [if_pos hk0', hs, List.append_nil]; rfl
          clear hs hN hk0'
          go_wp2_with (at_builtin; refine wpList_appS rfl _ _ rfl w.heap.size _ _ w1 hI1 rfl s rfl (by omega) hsz2 ?_; intro v3 w3 hI3 hb4)
          rw [← HA.out] at hI3
          obtain ⟨A3, cp3, rfl⟩ := hI3.shape
          go_wp2
          go_roundw
          case rel => exact ⟨k + 1, by omega, by go_num, hI3, hb2.trans hb4, HN2⟩
          case measure => simp [intOf]; omega
      · have HR : Hid (joined l = none) := outcome_none hlt hs
        clear hs
        go_wp2
        go_ret2
        exact ⟨by rw [HR.out]; rfl, hb2⟩
    · have hkn : k = l.length := by omega
      have HR : Hid (joined l = some ⟨(acc l k).toArray⟩) := by show _ = _; rw [hkn]; exact outcome_some fun j hj => hN.out j (by omega)
      obtain ⟨A1, c1, rfl⟩ := hI.shape
      have hS := run_string _ _ _ _ hI
      clear hI hkn
      go_wp2
      go_ret2
      exact ⟨by rw [HR.out]; rfl, hbw⟩
end Go.Proofs.YtjmgfhbadnechaaDoor.Lxj
