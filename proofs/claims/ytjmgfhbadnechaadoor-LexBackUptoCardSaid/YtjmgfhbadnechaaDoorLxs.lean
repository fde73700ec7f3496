/- drowselaw03.Same; the cells of a list of tokens. -/
import Derived.Test.YtjmgfhbadnechaaDoorLxm
set_option linter.unusedVariables false
namespace Go.Proofs.YtjmgfhbadnechaaDoor.Lxs
open Go.RowKit Wrd Nam Env Num Lxp Lxw Lxv Lxr App Aps Lxj Lxk

theorem tok_eq {s t : Tok} (e0 : (s.kind == t.kind) = true) (e1 : (s.text.toList == t.text.toList) = true) (e2 : (s.num == t.num) = true) (e3 : (s.pos == t.pos) = true) (e4 : (s.line == t.line) = true) : s = t := by
  obtain ⟨a0, a1, a2, a3, a4⟩ := s
  obtain ⟨b0, b1, b2, b3, b4⟩ := t
  have h0 := eq_of_beq e0; have h1 := eq_of_beq e1; have h2 := eq_of_beq e2; have h3 := eq_of_beq e3; have h4 := eq_of_beq e4
  simp only at h0 h1 h2 h3 h4
  rw [Lib.toList_data, Lib.toList_data] at h1
  rw [h0, Plo.ba_ext h1, h2, h3, h4]
theorem differ {l m : List Tok} {k : Nat} {s t : Tok} (hs : l.getD k zero = s) (ht : m.getD k zero = t) (h : s ≠ t) : l ≠ m := by
  intro e; rw [e, ht] at hs; exact h hs.symm
theorem alike {l m : List Tok} (hl : l.length = m.length) (h : ∀ j, j < l.length → l.getD j zero = m.getD j zero) : l = m := by
  apply List.ext_getElem hl
  intro j h1 h2
  have := h j h1
  simpa [List.getD_eq_getElem?_getD, h1, h2] using this
set_option maxHeartbeats 1000000 in
set_option maxRecDepth 100000 in
theorem same_some (b o c b2 o2 c2 : Nat) (l m : List Tok) (w : World) (hf : l.length ≤ 1048576) (ht : Hid (Toks w b o l)) (hm : Hid (Toks w b2 o2 m)) (hlen : l.length = m.length) :
    Calls Tryd.prog 10 #[.slice (some ⟨b, o, none⟩) l.length c, .slice (some ⟨b2, o2, none⟩) m.length c2] w fun e w' => (∃ r, e = .returned (.bool r) ∧ (r = true ↔ l = m)) ∧ ∃ q, w' = w.drewN q := by
  · rw [← hlen]
    have HL := Lib.hid hlen
    clear hlen
    go_enter Tryd.func10, Tryd.ntmps10
    go_wp2
    go_loopw [5] (fun i wr => ∃ k q : Nat, k ≤ l.length ∧ i = .int .i64 k ∧ wr = w.drewN q ∧ Hid (∀ j, j < k → l.getD j zero = m.getD j zero)) (fun i _ => l.length - (intOf i).toNat)
    case atStart => exact ⟨0, 0, Nat.zero_le _, rfl, rfl, fun j hj => absurd hj (by omega)⟩
    case round =>
      obtain ⟨k, q, hk, rfl, rfl, hN⟩ := hrel
      by_cases hlt : k < l.length
      · obtain ⟨s, hS⟩ : ∃ s, l.getD k zero = s := ⟨_, rfl⟩
        obtain ⟨t, hT⟩ : ∃ t, m.getD k zero = t := ⟨_, rfl⟩
        have h1 := ht.out k hlt
        have h2 := hm.out k (by rw [← HL.out]; exact hlt)
        rw [hS] at h1
        rw [hT] at h2
        have HS := Lib.hid hS
        have HT := Lib.hid hT
        clear hS hT
        obtain ⟨c0, c1, c2', c3, c4⟩ := h1
        obtain ⟨d0, d1, d2, d3, d4⟩ := h2
        cases e0 : (s.kind == t.kind) with
        | false =>
          have HR : Hid (l ≠ m) := differ HS.out HT.out (by intro e; rw [e] at e0; simp at e0)
          go_wp2_with fail
          go_quiet (fail)
          go_wp2
          go_ret
          exact ⟨⟨_, rfl, ⟨fun h => (by cases h), fun h => absurd h HR.out⟩⟩, _, by first | exact World.drewN_drewN .. | rfl⟩
        | true =>
        cases e1 : (s.text.toList == t.text.toList) with
        | false =>
          have HR : Hid (l ≠ m) := differ HS.out HT.out (by intro e; rw [e] at e1; simp at e1)
          go_wp2_with fail
          go_quiet (fail)
          go_wp2
          go_ret
          exact ⟨⟨_, rfl, ⟨fun h => (by cases h), fun h => absurd h HR.out⟩⟩, _, by first | exact World.drewN_drewN .. | rfl⟩
        | true =>
        cases e2 : (s.num == t.num) with
        | false =>
          have HR : Hid (l ≠ m) := differ HS.out HT.out (by intro e; rw [e] at e2; simp at e2)
          go_wp2_with fail
          go_quiet (fail)
          go_wp2
          go_ret
          exact ⟨⟨_, rfl, ⟨fun h => (by cases h), fun h => absurd h HR.out⟩⟩, _, by first | exact World.drewN_drewN .. | rfl⟩
        | true =>
        cases e3 : (s.pos == t.pos) with
        | false =>
          have HR : Hid (l ≠ m) := differ HS.out HT.out (by intro e; rw [e] at e3; simp at e3)
          go_wp2_with fail
          go_quiet (fail)
          go_wp2
          go_ret
          exact ⟨⟨_, rfl, ⟨fun h => (by cases h), fun h => absurd h HR.out⟩⟩, _, by first | exact World.drewN_drewN .. | rfl⟩
        | true =>
        cases e4 : (s.line == t.line) with
        | false =>
          have HR : Hid (l ≠ m) := differ HS.out HT.out (by intro e; rw [e] at e4; simp at e4)
          go_wp2_with fail
          go_quiet (fail)
          go_wp2
          go_ret
          exact ⟨⟨_, rfl, ⟨fun h => (by cases h), fun h => absurd h HR.out⟩⟩, _, by first | exact World.drewN_drewN .. | rfl⟩
        | true =>
          have HE : Hid (s = t) := tok_eq e0 e1 e2 e3 e4
          have HN2 : Hid (∀ j, j < k + 1 → l.getD j zero = m.getD j zero) := by
            intro j hj
            by_cases e : j = k
            · rw [e, HS.out, HT.out]; exact HE.out
            · exact hN.out j (by omega)
          clear hN
          go_wp2_with fail
          go_quiet (fail)
          go_wp2
          go_roundw
          case rel => exact ⟨k + 1, _, by omega, by go_num, rfl, HN2⟩
          case measure => simp [intOf]; omega
      · have HR : Hid (l = m) := alike HL.out fun j hj => hN.out j (by omega)
        clear hN
        go_wp2
        go_ret
        exact ⟨⟨_, rfl, ⟨fun _ => HR.out, fun _ => rfl⟩⟩, q, rfl⟩

set_option maxHeartbeats 1000000 in
set_option maxRecDepth 100000 in
theorem same_differ (x y : Option Addr) (n n' c c2 : Nat) (w : World) (hlen : n ≠ n') :
    Calls Tryd.prog 10 #[.slice x n c, .slice y n' c2] w fun e w' => e = .returned (.bool false) ∧ w = w' := by
  have hd : ((n : Int) == (n' : Int)) = false := beq_false_of_ne (by omega)
  have hd2 : ((n : Int) != (n' : Int)) = true := by unfold bne; rw [hd]; rfl
  have HL := Lib.hid hlen
  clear hlen
  go_enter Tryd.func10, Tryd.ntmps10
  go_wp2
  go_ret
  exact ⟨rfl, rfl⟩
set_option maxHeartbeats 1000000 in
set_option maxRecDepth 100000 in
theorem same_none (x y : Option Addr) (c c2 : Nat) (w : World) :
    Calls Tryd.prog 10 #[.slice x 0 c, .slice y 0 c2] w fun e w' => e = .returned (.bool true) ∧ w = w' := by
  go_enter Tryd.func10, Tryd.ntmps10
  go_wp2
  go_loopw [5] (fun i wr => i = .int .i64 ((0 : Nat) : Int) ∧ wr = w) (fun i _ => 0)
  case atStart => exact ⟨rfl, rfl⟩
  case round =>
    obtain ⟨rfl, rfl⟩ := hrel
    go_wp2
    go_ret
    exact ⟨rfl, rfl⟩
/-- Two lists of tokens: are they one? -/
theorem same_any (v u : Value) (l m : List Tok) (w : World) (hl : l.length ≤ 1048576) (hv : Lies w v l) (hu : Lies w u m) :
    Calls Tryd.prog 10 #[v, u] w fun e w' => (∃ r, e = .returned (.bool r) ∧ (r = true ↔ l = m)) ∧ ∃ q, w' = w.drewN q := by
  have no : ∀ {x y n n' c c2}, n ≠ n' → l.length = n → m.length = n' → v = .slice x n c → u = .slice y n' c2 → Calls Tryd.prog 10 #[v, u] w fun e w' => (∃ r, e = .returned (.bool r) ∧ (r = true ↔ l = m)) ∧ ∃ q, w' = w.drewN q := by
    intro x y n n' c c2 h1 h2 h3 h4 h5
    subst h4; subst h5
    exact (same_differ x y n n' c c2 w h1).mono fun e w' ⟨he, hw⟩ => ⟨⟨false, he, ⟨fun h => (by cases h), fun h => absurd (by rw [← h2, ← h3, h]) h1⟩⟩, 0, hw.symm⟩
  by_cases hlen : l.length = m.length
  · rcases hv with ⟨rfl, x, c, rfl⟩ | ⟨b, o, c, rfl, h1, h2⟩
    · have hm : m = [] := List.length_eq_zero_iff.1 hlen.symm
      subst hm
      rcases hu with ⟨_, y, c2, rfl⟩ | ⟨b2, o2, c2, rfl, h3, h4⟩
      · exact (same_none x y c c2 w).mono fun e w' ⟨he, hw⟩ => ⟨⟨true, he, by simp⟩, 0, hw.symm⟩
      · exact (same_none x _ c c2 w).mono fun e w' ⟨he, hw⟩ => ⟨⟨true, he, by simp⟩, 0, hw.symm⟩
    · rcases hu with ⟨rfl, y, c2, rfl⟩ | ⟨b2, o2, c2, rfl, h3, h4⟩
      · have hl0 : l = [] := List.length_eq_zero_iff.1 hlen
        subst hl0
        exact (same_none _ y c c2 w).mono fun e w' ⟨he, hw⟩ => ⟨⟨true, he, by simp⟩, 0, hw.symm⟩
      · exact same_some b o c b2 o2 c2 l m w hl h2 h4 hlen
  · rcases hv with ⟨rfl, x, c, rfl⟩ | ⟨b, o, c, rfl, h1, h2⟩ <;> rcases hu with ⟨rfl, y, c2, rfl⟩ | ⟨b2, o2, c2, rfl, h3, h4⟩
    all_goals exact no hlen rfl rfl rfl rfl

/-- The cells of a list of tokens. -/
def tokCells : List Tok → List Value
  | [] => []
  | t :: r => .int .i64 t.kind :: .string t.text :: .int .i64 t.num :: .int .i64 t.pos :: .int .i64 t.line :: tokCells r
theorem tokCells_length : ∀ l : List Tok, (tokCells l).length = l.length * 5
  | [] => rfl
  | t :: r => by simp [tokCells, tokCells_length r]; omega
theorem tokCells_append : ∀ l m : List Tok, tokCells (l ++ m) = tokCells l ++ tokCells m
  | [], m => rfl
  | t :: r, m => by simp [tokCells, tokCells_append r m]
theorem tokCells_at : ∀ (l : List Tok) (j : Nat), j < l.length → (tokCells l)[j * 5]? = some (.int .i64 (l.getD j zero).kind) ∧ (tokCells l)[j * 5 + 1]? = some (.string (l.getD j zero).text) ∧ (tokCells l)[j * 5 + 2]? = some (.int .i64 (l.getD j zero).num) ∧ (tokCells l)[j * 5 + 3]? = some (.int .i64 (l.getD j zero).pos) ∧ (tokCells l)[j * 5 + 4]? = some (.int .i64 (l.getD j zero).line)
  | [], j, h => absurd h (by simp)
  | t :: r, 0, _ => ⟨rfl, rfl, rfl, rfl, rfl⟩
  | t :: r, j + 1, h => by
    have e : (j + 1) * 5 = j * 5 + 5 := by omega
    rw [e]
    exact tokCells_at r j (by simpa using h)
theorem tokCells_one : ∀ (l : List Tok), ∀ u ∈ tokCells l, u.oneCell' = true
  | [], u, h => by simp [tokCells] at h
  | t :: r, u, h => by
    simp only [tokCells, List.mem_cons] at h
    rcases h with rfl | rfl | rfl | rfl | rfl | h
    · rfl
    · rfl
    · rfl
    · rfl
    · rfl
    · exact tokCells_one r u h
/-- Every cell of a list that lies somewhere. -/
theorem Toks.cells {w : World} {b o : Nat} : ∀ {l : List Tok}, Toks w b o l → ∀ (j : Nat) u, (tokCells l)[j]? = some u → w.cell? ((⟨b, o, none⟩ : Addr).add j) = some u := by
  intro l h j u hu
  have hj : j < l.length * 5 := by rw [← tokCells_length]; exact (List.getElem?_eq_some_iff.1 hu).1
  have ha := h (j / 5) (by omega)
  have hc := tokCells_at l (j / 5) (by omega)
  obtain ⟨c0, c1, c2, c3, c4⟩ := ha
  obtain ⟨d0, d1, d2, d3, d4⟩ := hc
  rw [Addr.add_lit]
  have hm : j % 5 = 0 ∨ j % 5 = 1 ∨ j % 5 = 2 ∨ j % 5 = 3 ∨ j % 5 = 4 := by omega
  rcases hm with h5 | h5 | h5 | h5 | h5
  · have e : j = j / 5 * 5 := by omega
    rw [e] at hu ⊢; rw [d0] at hu; cases hu; exact c0
  · have e : j = j / 5 * 5 + 1 := by omega
    rw [e] at hu ⊢; rw [d1] at hu; cases hu; rw [← Nat.add_assoc]; exact c1
  · have e : j = j / 5 * 5 + 2 := by omega
    rw [e] at hu ⊢; rw [d2] at hu; cases hu; rw [← Nat.add_assoc]; exact c2
  · have e : j = j / 5 * 5 + 3 := by omega
    rw [e] at hu ⊢; rw [d3] at hu; cases hu; rw [← Nat.add_assoc]; exact c3
  · have e : j = j / 5 * 5 + 4 := by omega
    rw [e] at hu ⊢; rw [d4] at hu; cases hu; rw [← Nat.add_assoc]; exact c4
/-- A row of the call's own that holds a list of tokens. -/
def OwnT (B : Nat) (v : Value) (l : List Tok) (w : World) : Prop := w.ownsRow B 42 5 v l.length (tokCells l)
theorem OwnT.lies {B : Nat} {v : Value} {l : List Tok} {w : World} (h : OwnT B v l w) : Lies w v l := by
  rcases h.2 with ⟨rfl, h0⟩ | ⟨g, cap, cur, rfl, _, hg, _, _, _, htk⟩
  · exact .inl ⟨List.length_eq_zero_iff.1 h0, none, 0, rfl⟩
  · refine .inr ⟨g, 0, cap, rfl, (Array.getElem?_eq_some_iff.1 hg).1, fun j hj => ?_⟩
    have hc := tokCells_at l j hj
    have e : ∀ i, i < 5 → w.cell? ⟨g, 0 + j * 5 + i, none⟩ = (tokCells l)[j * 5 + i]? := by
      intro i hi
      rw [Nat.zero_add]
      exact World.ownsRow.cellAt h (j * 5 + i) (by omega)
    exact ⟨(e 0 (by omega)).trans hc.1, (e 1 (by omega)).trans hc.2.1, (e 2 (by omega)).trans hc.2.2.1, (e 3 (by omega)).trans hc.2.2.2.1, (e 4 (by omega)).trans hc.2.2.2.2⟩
theorem Lies.src {w : World} {v : Value} {l : List Tok} (h : Lies w v l) : Src Tryd.prog 5 22 v l.length (tokCells l) w := by
  rcases h with ⟨rfl, x, c, rfl⟩ | ⟨b, o, c, rfl, h1, h2⟩
  · cases x with
    | none => exact Src.ofNil w Tryd.underlying22 c
    | some a => exact Src.ofSlice w Tryd.underlying22 a 0 c [] rfl (fun j u hu => by simp at hu) (fun u hu => by simp at hu)
  · exact Src.ofSlice w Tryd.underlying22 ⟨b, o, none⟩ l.length c (tokCells l) (tokCells_length l) (Toks.cells h2) (tokCells_one l)
end Go.Proofs.YtjmgfhbadnechaaDoor.Lxs
