/- Two sources, a line's end between, have the tokens of both. No program in sight. -/
import Derived.Test.YtjmgfhbadnechaaDoorLpp
set_option linter.unusedVariables false
namespace Go.Proofs.YtjmgfhbadnechaaDoor.Lpq
open Nam Lxp Lxn Lpp

theorem run_grow (r b : List UInt8) : run (r ++ 10 :: b) = run r := by
  unfold run
  rw [List.takeWhile_append]
  split
  · rename_i h
    rw [List.takeWhile_cons, if_neg (by decide), List.append_nil]
    exact h.symm
  · rfl
theorem take_grow {r b : List UInt8} {k : Nat} (h : k ≤ r.length) : (r ++ b).take k = r.take k := List.take_append_of_le_length h
theorem sign_clean : ∀ s ∈ signs, (10 : UInt8) ∉ s.data.toList := by decide
theorem isPrefixOf_grow : ∀ (x r b : List UInt8), (10 : UInt8) ∉ x → x.isPrefixOf (r ++ 10 :: b) = x.isPrefixOf r
  | [], _, _, _ => by simp
  | c :: x, [], b, h => by
    simp only [List.mem_cons, not_or] at h
    show (c == 10 && x.isPrefixOf b) = false
    rw [beq_false_of_ne (Ne.symm h.1), Bool.false_and]
  | c :: x, d :: r, b, h => by
    simp only [List.mem_cons, not_or] at h
    simp only [List.cons_append, List.isPrefixOf_cons_cons, isPrefixOf_grow x r b h.2]
theorem find_congr {α : Type} {p q : α → Bool} : ∀ (l : List α), (∀ x ∈ l, p x = q x) → l.find? p = l.find? q
  | [], _ => rfl
  | x :: l, h => by
    rw [List.find?_cons, List.find?_cons, h x (by simp), find_congr l fun y hy => h y (by simp [hy])]
theorem firstSign_grow (r b : List UInt8) : firstSign (r ++ 10 :: b) = firstSign r :=
  find_congr signs fun s hs => isPrefixOf_grow _ _ _ (sign_clean s hs)
theorem body_grow (b : List UInt8) : ∀ (n : Nat) (l acc : List UInt8) (i : Nat) (t : List UInt8) (k : Nat), l.length ≤ n → Plw.body l acc i = some (t, k) → Plw.body (l ++ b) acc i = some (t, k)
  | _, [], acc, i, t, k, _, h => by rw [Plw.body_nil] at h; cases h
  | 0, c :: l, acc, i, t, k, hl, h => by simp at hl
  | n + 1, c :: l, acc, i, t, k, hl, h => by
    simp only [List.length_cons] at hl
    by_cases h1 : c = 34
    · subst h1
      rw [Plw.body_quote] at h
      rw [List.cons_append, Plw.body_quote]; exact h
    by_cases h2 : c = 10
    · subst h2
      rw [Plw.body_line] at h; cases h
    by_cases h3 : c = 92
    · subst h3
      cases l with
      | nil => rw [Plw.body_end] at h; cases h
      | cons d l =>
        cases hm : Plw.meant d with
        | none => rw [Plw.body_bad _ _ _ _ hm] at h; cases h
        | some m =>
          rw [Plw.body_good _ _ _ _ _ hm] at h
          rw [List.cons_append, List.cons_append, Plw.body_good _ _ _ _ _ hm]
          simp only [List.length_cons] at hl
          exact body_grow b n l _ _ t k (by omega) h
    · rw [Plw.body_plain _ _ _ _ h1 h2 h3] at h
      rw [List.cons_append, Plw.body_plain _ _ _ _ h1 h2 h3]
      exact body_grow b n l _ _ t k (by omega) h
theorem unquote_grow {l b t : List UInt8} {k : Nat} (h : Plw.unquote l = some (t, k)) : Plw.unquote (l ++ b) = some (t, k) := by
  cases l with
  | nil => cases h
  | cons c r =>
    unfold Plw.unquote at h ⊢
    simp only [List.cons_append] at h ⊢
    split at h
    · rename_i hc
      rw [if_pos hc]
      exact body_grow b _ _ _ _ _ _ (Nat.le_refl _) h
    · cases h
theorem cut_grow {r b : List UInt8} {x : Piece} (h : cut r = .inr x) : cut (r ++ 10 :: b) = .inr x := by
  cases r with
  | nil => cases h
  | cons c r =>
    have hr := run_grow (c :: r) b
    have ht := take_grow (b := 10 :: b) (run_le (c :: r))
    have hs := firstSign_grow (c :: r) b
    rw [List.cons_append] at hr ht hs
    unfold cut at h ⊢
    simp only [List.cons_append] at h ⊢
    rw [hr, ht, hs]
    split at h
    · rename_i h1; rw [if_pos h1]; exact h
    · rename_i h1
      rw [if_neg h1]
      split at h
      · rename_i h2; rw [if_pos h2]; exact h
      · rename_i h2
        rw [if_neg h2]
        split at h
        · rename_i h3
          rw [if_pos h3]
          split at h
          · cases h
          · rename_i t k hu
            have := unquote_grow (b := 10 :: b) hu
            rw [List.cons_append] at this
            rw [this]; exact h
        · rename_i h3; rw [if_neg h3]; exact h
theorem comment_grow (c : UInt8) (r b : List UInt8) : Lxn.comment (c :: r ++ 10 :: b) = Lxn.comment (c :: r) := by
  cases r with
  | nil =>
    have e1 : Lxn.comment [c] = 0 := by
      unfold Lxn.comment
      split
      · rename_i e; simp at e
      · rfl
    have e2 : Lxn.comment ([c] ++ 10 :: b) = 0 := by
      unfold Lxn.comment
      split
      · rename_i e; simp at e
      · rfl
    rw [e1, e2]
  | cons d r =>
    by_cases h : c = 47 ∧ d = 47
    · obtain ⟨rfl, rfl⟩ := h
      show (List.takeWhile _ (47 :: 47 :: r ++ 10 :: b)).length = (List.takeWhile _ (47 :: 47 :: r)).length
      rw [List.takeWhile_append]
      split
      · rw [List.takeWhile_cons, if_neg (by decide)]
        simp_all
      · rfl
    · have e1 : Lxn.comment (c :: d :: r) = 0 := by
        unfold Lxn.comment
        split
        · rename_i e
          simp only [List.cons.injEq] at e
          exact absurd ⟨e.1, e.2.1⟩ h
        · rfl
      have e2 : Lxn.comment (c :: d :: r ++ 10 :: b) = 0 := by
        unfold Lxn.comment
        split
        · rename_i e
          simp only [List.cons_append, List.cons.injEq] at e
          exact absurd ⟨e.1, e.2.1⟩ h
        · rfl
      rw [e1, e2]
theorem drop_grow {a b : List UInt8} {p : Nat} (hp : p ≤ a.length) : (a ++ b).drop p = a.drop p ++ b := List.drop_append_of_le_length hp
theorem close_last (p : Nat) (line : Int) (out : List Tok) (last t : Tok) : (close p line out last ++ [t]).dropLast = close p line out last := List.dropLast_concat
/-- The first source, as if it stood alone. -/
theorem go_first (a b : List UInt8) (x y : List Tok) (K : Nat) : ∀ (n p : Nat) (line : Int) (out : List Tok) (last : Tok), p ≤ a.length → go a n p line out last = .inr x →
    (∀ (m : Nat) (line' : Int), K ≤ m → (x.getLast?.map (·.line)) = some line' → go (a ++ 10 :: b) m (a.length + 1) (line' + 1) x.dropLast zero = .inr y) →
    ∀ m, n + K ≤ m → go (a ++ 10 :: b) m p line out last = .inr y
  | 0, _, _, _, _, _, h, _, _, _ => by cases h
  | n + 1, p, line, out, last, hp, h, hk, m, hm => by
    obtain ⟨m, rfl⟩ : ∃ m', m = m' + 1 := ⟨m - 1, by omega⟩
    unfold go at h ⊢
    rw [drop_grow hp]
    split at h
    · rename_i hd
      have hps : p = a.length := by
        have := congrArg List.length hd
        rw [List.length_drop] at this
        simp only [List.length_nil] at this; omega
      simp only [Sum.inr.injEq] at h
      rw [hd]
      show (if (10 : UInt8) = 10 then _ else _) = _
      rw [if_pos rfl]
      have := hk m line (by omega) (by rw [← h]; simp)
      rw [← h, close_last, ← hps] at this
      exact this
    · rename_i c r hd
      have hps : p + 1 ≤ a.length := by
        have := congrArg List.length hd
        rw [List.length_drop] at this
        simp only [List.length_cons] at this; omega
      rw [hd]
      simp only [List.cons_append]
      have hcg := comment_grow c r b
      rw [List.cons_append] at hcg
      rw [hcg]
      split at h
      · rename_i hc; rw [if_pos hc]
        exact go_first a b x y K n (p + 1) _ _ _ hps h hk m (by omega)
      · rename_i hc
        rw [if_neg hc]
        split at h
        · rename_i hb; rw [if_pos hb]
          exact go_first a b x y K n (p + 1) _ _ _ hps h hk m (by omega)
        · rename_i hb
          rw [if_neg hb]
          split at h
          · rename_i hcm
            rw [if_pos hcm]
            have hlen : Lxn.comment (c :: r) ≤ (c :: r).length := by
              obtain ⟨_, _, _, hl, _⟩ := comment_shape hcm; exact hl
            rw [← hd, List.length_drop] at hlen
            rw [← hd] at h ⊢
            exact go_first a b x y K n _ _ _ _ (by omega) h hk m (by omega)
          · rename_i hcm
            rw [if_neg hcm]
            split at h
            · cases h
            · rename_i k t q l hcut
              have hcp := callPiece hd hcut line
              have := cut_grow (b := b) hcut
              rw [List.cons_append] at this
              rw [this]
              exact go_first a b x y K n _ _ _ _ hcp.2.1 h hk m (by omega)
/-- A token, moved. -/
def shift (d : Nat) (l : Int) (t : Tok) : Tok := ⟨t.kind, t.text, t.num, t.pos + d, t.line + l⟩
theorem calls_shift (d : Nat) (l : Int) (t : Tok) : calls (shift d l t) = calls t := rfl
theorem calls_zero : calls zero = false := by decide
theorem close_shift (d : Nat) (l : Int) (p : Nat) (line : Int) (pre out : List Tok) (last last' : Tok) (hl : calls last' = calls last) :
    close (d + p) (line + l) (pre ++ out.map (shift d l)) last' = pre ++ (close p line out last).map (shift d l) := by
  unfold close
  rw [hl]
  split
  · rw [List.map_append, List.append_assoc]
    congr 2
    show [_] = [shift _ _ _]
    unfold shift
    simp only [List.cons.injEq, Tok.mk.injEq, true_and, and_true]
    rw [Int.natCast_add, Int.add_comm]
  · rfl
/-- The second source, moved. -/
theorem go_second (a b : List UInt8) (l : Int) (pre : List Tok) : ∀ (n p : Nat) (line : Int) (out : List Tok) (last last' : Tok) (y : List Tok), go b n p line out last = .inr y → calls last' = calls last →
    ∀ m, n ≤ m → go (a ++ 10 :: b) m (a.length + 1 + p) (line + l) (pre ++ out.map (shift (a.length + 1) l)) last' = .inr (pre ++ y.map (shift (a.length + 1) l))
  | 0, _, _, _, _, _, _, h, _, _, _ => by cases h
  | n + 1, p, line, out, last, last', y, h, hl, m, hm => by
    obtain ⟨m, rfl⟩ : ∃ m', m = m' + 1 := ⟨m - 1, by omega⟩
    have hdr : (a ++ 10 :: b).drop (a.length + 1 + p) = b.drop p := by
      rw [← List.drop_drop]
      congr 1
      rw [show a ++ 10 :: b = (a ++ [10]) ++ b from by simp]
      exact List.drop_left' (by simp)
    unfold go at h ⊢
    rw [hdr]
    split at h
    · simp only [Sum.inr.injEq] at h
      subst h
      simp only [Sum.inr.injEq]
      rw [close_shift _ _ _ _ _ _ last last' hl, List.map_append, List.append_assoc]
      congr 2
      show [_] = [shift _ _ _]
      unfold shift
      simp only [List.cons.injEq, Tok.mk.injEq, true_and, and_true]
      rw [Int.natCast_add, Int.add_comm]
    · rename_i c r hd
      split at h
      · rename_i hc; rw [if_pos hc, close_shift _ _ _ _ _ _ last last' hl]
        have := go_second a b l pre n (p + 1) (line + 1) (close p line out last) zero zero y h rfl m (by omega)
        rw [show line + l + 1 = line + 1 + l from by omega]
        exact this
      · rename_i hc
        rw [if_neg hc]
        split at h
        · rename_i hb; rw [if_pos hb]
          exact go_second a b l pre n (p + 1) line out last last' y h hl m (by omega)
        · rename_i hb
          rw [if_neg hb]
          split at h
          · rename_i hcm
            rw [if_pos hcm]
            have := go_second a b l pre n _ line out last last' y h hl m (by omega)
            rw [Nat.add_assoc]
            exact this
          · rename_i hcm
            rw [if_neg hcm]
            split at h
            · cases h
            · rename_i k t q w hcut
              have := go_second a b l pre n (p + w) line _ _ (shift (a.length + 1) l ⟨k, t, q, p, line⟩) y h rfl m (by omega)
              rw [List.map_append, ← List.append_assoc] at this
              have e : shift (a.length + 1) l ⟨k, t, q, p, line⟩ = ⟨k, t, q, ((a.length + 1 + p : Nat) : Int), line + l⟩ := by
                unfold shift
                simp only [Tok.mk.injEq, true_and, and_true]
                omega
              rw [List.map_cons, List.map_nil, e] at this
              rw [Nat.add_assoc]
              exact this
theorem scan_go {s : List UInt8} {l : List Tok} (h : scan s = .inr l) : s.length ≤ 20000 ∧ go s (s.length + 1) 0 1 [] zero = .inr l := by
  unfold scan at h
  split at h
  · cases h
  · exact ⟨by omega, h⟩
/-- Two sources, a line's end between. -/
theorem scan_parts {a b : List UInt8} {x y : List Tok} (hx : scan a = .inr x) (hy : scan b = .inr y) (hl : a.length + 1 + b.length ≤ 20000) :
    ∃ line, (x.getLast?.map (·.line)) = some line ∧ scan (a ++ 10 :: b) = .inr (x.dropLast ++ y.map (shift (a.length + 1) line)) := by
  obtain ⟨_, hx⟩ := scan_go hx
  obtain ⟨_, hy⟩ := scan_go hy
  obtain ⟨r, hr, hne, _, t, ht, _⟩ := go_good a _ _ _ _ _ _ (Nat.zero_le _) hx
  rw [List.nil_append] at hr
  subst hr
  refine ⟨t.line, by rw [ht]; rfl, ?_⟩
  unfold scan
  rw [if_neg (by simp only [List.length_append, List.length_cons]; omega)]
  refine go_first a b x _ (b.length + 1) _ _ _ _ _ (Nat.zero_le _) hx ?_ _ (by simp only [List.length_append, List.length_cons]; omega)
  intro m line' hm hline
  rw [ht] at hline
  simp only [Option.map_some, Option.some.injEq] at hline
  subst hline
  have := go_second a b t.line x.dropLast (b.length + 1) 0 1 [] zero zero y hy rfl m hm
  rw [List.map_nil, List.append_nil, Nat.add_zero, Int.add_comm] at this
  exact this
end Go.Proofs.YtjmgfhbadnechaaDoor.Lpq
