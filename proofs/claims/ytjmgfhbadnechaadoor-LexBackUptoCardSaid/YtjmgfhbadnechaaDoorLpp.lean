/- Where a source's tokens stand; what lies between them. No program in sight. -/
import Derived.Test.YtjmgfhbadnechaaDoorLxn
set_option linter.unusedVariables false
namespace Go.Proofs.YtjmgfhbadnechaaDoor.Lpp
open Nam Lxp Lxn

/-- What lies between two tokens: how many line ends; none: there is something of weight. In a comment or not. -/
def betw : Bool → List UInt8 → Option Nat
  | _, [] => some 0
  | true, c :: r => if c = 10 then (betw false r).map (· + 1) else betw true r
  | false, c :: r => if c = 10 then (betw false r).map (· + 1)
    else if c = 47 ∧ r.head? = some 47 then betw true r
    else if Lxn.blank c = true then betw false r else none
theorem betw_line (m : Bool) (r : List UInt8) : betw m (10 :: r) = (betw false r).map (· + 1) := by
  cases m <;> simp [betw]
theorem betw_in {c : UInt8} (h : c ≠ 10) (r : List UInt8) : betw true (c :: r) = betw true r := by simp [betw, h]
theorem betw_blank {c : UInt8} (h : Lxn.blank c = true) (r : List UInt8) : betw false (c :: r) = betw false r := by
  have h1 : c ≠ 10 := by intro e; subst e; exact absurd h (by decide)
  have h2 : c ≠ 47 := by intro e; subst e; exact absurd h (by decide)
  simp [betw, h, h1, h2]
/-- Behind a comment comes a line's end, or nothing. -/
def atEnd (r : List UInt8) : Prop := r = [] ∨ r.head? = some 10
theorem betw_body : ∀ (x r : List UInt8), 10 ∉ x → atEnd r → betw true (x ++ r) = betw false r
  | [], r, _, h => by
    cases r with
    | nil => rfl
    | cons c r =>
      rcases h with h | h
      · cases h
      · simp only [List.head?_cons, Option.some.injEq] at h
        subst h
        rw [List.nil_append, betw_line, betw_line]
  | c :: x, r, hx, h => by
    simp only [List.mem_cons, not_or] at hx
    rw [List.cons_append, betw_in (Ne.symm hx.1)]
    exact betw_body x r hx.2 h
theorem betw_comment (x r : List UInt8) (hx : 10 ∉ x) (h : atEnd r) : betw false (47 :: 47 :: x ++ r) = betw false r := by
  have e : betw false (47 :: 47 :: x ++ r) = betw true (47 :: x ++ r) := by simp [betw]
  rw [e, ← betw_body x r hx h, List.cons_append, betw_in (by decide)]

/-- How many bytes a token has in its source. -/
def long (s : List UInt8) (t : Tok) : Nat :=
  if t.kind = 3 then (Lib.itoa t.num).length
  else if t.kind = 4 then (match Plw.unquote (s.drop t.pos.toNat) with | none => 0 | some (_, k) => k)
  else if t.kind = 6 ∧ isT t.text eol = true then 0
  else t.text.size
/-- The tokens from a place and a line on stand where they say. -/
def Good (s : List UInt8) : Nat → Int → List Tok → Prop
  | _, _, [] => True
  | f, line, t :: r => ∃ p n : Nat, t.pos = p ∧ f ≤ p ∧ p ≤ s.length ∧ (t.kind = 0 ↔ r = []) ∧ betw false ((s.drop f).take (p - f)) = some n ∧ t.line = line + n ∧
      p + long s t ≤ s.length ∧ (t.kind = 1 ∨ t.kind = 2 ∨ t.kind = 5 → (s.drop p).take (long s t) = t.text.data.toList) ∧ Good s (p + long s t) t.line r
theorem Good.front {s : List UInt8} {f g : Nat} {line line' : Int} {l : List Tok} (h : Good s g line' l) (hg : f ≤ g)
    (hs : ∀ (p n : Nat), g ≤ p → p ≤ s.length → betw false ((s.drop g).take (p - g)) = some n → ∃ n', betw false ((s.drop f).take (p - f)) = some n' ∧ line' + (n : Int) = line + (n' : Int)) : Good s f line l := by
  cases l with
  | nil => trivial
  | cons t r =>
    obtain ⟨p, n, h1, h2, h3, h4, h5, h6, h7⟩ := h
    obtain ⟨n', h8, h9⟩ := hs p n h2 h3 h5
    exact ⟨p, n', h1, by omega, h3, h4, h8, by omega, h7⟩
theorem drop_take {s : List UInt8} {f p : Nat} {c : UInt8} {r : List UInt8} (h : s.drop f = c :: r) (hp : f + 1 ≤ p) : (s.drop f).take (p - f) = c :: (s.drop (f + 1)).take (p - (f + 1)) := by
  have h1 : s.drop (f + 1) = r := by rw [← List.drop_drop, h]; rfl
  rw [h, h1]
  obtain ⟨k, rfl⟩ : ∃ k, p = f + 1 + k := ⟨p - (f + 1), by omega⟩
  rw [show f + 1 + k - f = k + 1 from by omega, show f + 1 + k - (f + 1) = k from by omega]; rfl
theorem Good.blank {s : List UInt8} {f : Nat} {line : Int} {l : List Tok} {c : UInt8} {r : List UInt8} (h : Good s (f + 1) line l) (hd : s.drop f = c :: r) (hc : Lxn.blank c = true) : Good s f line l :=
  h.front (by omega) fun p n h1 h2 h3 => ⟨n, by rw [drop_take hd h1, betw_blank hc]; exact h3, rfl⟩
theorem Good.line {s : List UInt8} {f : Nat} {line : Int} {l : List Tok} {r : List UInt8} (h : Good s (f + 1) (line + 1) l) (hd : s.drop f = 10 :: r) : Good s f line l :=
  h.front (by omega) fun p n h1 h2 h3 => ⟨n + 1, by rw [drop_take hd h1, betw_line, h3]; rfl, by omega⟩
theorem comment_shape {r : List UInt8} (h : 0 < comment r) : ∃ x, r.take (comment r) = 47 :: 47 :: x ∧ 10 ∉ x ∧ comment r ≤ r.length ∧ atEnd (r.drop (comment r)) := by
  unfold comment at h ⊢
  split at h
  · rename_i r'
    have e : List.takeWhile (fun x : UInt8 => x != 10) (47 :: 47 :: r') = 47 :: 47 :: r'.takeWhile (· != 10) := rfl
    refine ⟨r'.takeWhile (· != 10), ?_, ?_, ?_, ?_⟩
    · show List.take (List.takeWhile _ _).length _ = _
      have := List.takeWhile_prefix (l := 47 :: 47 :: r') (fun x : UInt8 => x != 10)
      rw [← List.prefix_iff_eq_take.1 this, e]
    · intro hm
      have := List.all_takeWhile (l := r') (p := fun x : UInt8 => x != 10)
      exact absurd (List.all_eq_true.1 this 10 hm) (by decide)
    · exact (List.takeWhile_sublist _).length_le
    · show atEnd (List.drop (List.takeWhile _ _).length _)
      have hsplit := List.takeWhile_append_dropWhile (p := fun x : UInt8 => x != 10) (l := 47 :: 47 :: r')
      have e2 : List.drop (List.takeWhile (fun x : UInt8 => x != 10) (47 :: 47 :: r')).length (47 :: 47 :: r') = List.dropWhile (fun x : UInt8 => x != 10) (47 :: 47 :: r') := by
        conv => lhs; rw [← hsplit]
        rw [hsplit]
        have : ∀ a b : List UInt8, (a ++ b).drop a.length = b := fun a b => List.drop_left
        conv => lhs; arg 2; rw [← hsplit]
        exact this _ _
      rw [e2]
      cases hd : List.dropWhile (fun x : UInt8 => x != 10) (47 :: 47 :: r') with
      | nil => exact .inl rfl
      | cons c q =>
        right
        have := List.head?_dropWhile_not (fun x : UInt8 => x != 10) (47 :: 47 :: r')
        rw [hd] at this
        simp only [List.head?_cons] at this ⊢
        simpa using this
  · omega
theorem Good.comment {s : List UInt8} {f : Nat} {line : Int} {l : List Tok} (h : Good s (f + Lxn.comment (s.drop f)) line l) (hc : 0 < Lxn.comment (s.drop f)) : Good s f line l := by
  obtain ⟨x, hx, hn, hl, he⟩ := comment_shape hc
  refine h.front (by omega) fun p n h1 h2 h3 => ⟨n, ?_, rfl⟩
  rw [← h3]
  obtain ⟨m, hm⟩ : ∃ m, Lxn.comment (s.drop f) = m := ⟨_, rfl⟩
  rw [hm] at h1 hx he ⊢
  have e : (s.drop f).take (p - f) = (s.drop f).take m ++ ((s.drop f).drop m).take (p - (f + m)) := by
    have := List.take_add (l := s.drop f) (i := m) (j := p - (f + m))
    rw [← this]; congr 1; omega
  rw [e, hx, ← List.drop_drop]
  refine betw_comment _ _ hn ?_
  rcases he with he | he
  · rw [he]; simp [atEnd]
  · cases hq : (s.drop f).drop m with
    | nil => simp [atEnd]
    | cons c q =>
      rw [hq] at he
      cases hk : p - (f + m) with
      | zero => simp [atEnd]
      | succ k => right; simpa using he
theorem callPiece {s : List UInt8} {p : Nat} {c : UInt8} {r : List UInt8} (hd : s.drop p = c :: r) {k q : Int} {t : ByteArray} {m : Nat} (h : cut (c :: r) = .inr (k, t, q, m)) (line : Int) :
    long s ⟨k, t, q, p, line⟩ = m ∧ p + m ≤ s.length ∧ k ≠ 0 ∧ (k = 1 ∨ k = 2 ∨ k = 5 → (s.drop p).take m = t.data.toList) := by
  have hf := cut_facts h
  have hlen : (c :: r).length = s.length - p := by rw [← hd, List.length_drop]
  refine ⟨?_, by have := hf.1; omega, by omega, ?_⟩
  · unfold cut at h
    simp only at h
    split at h
    · split at h
      · rename_i hz
        simp only [Sum.inr.injEq, Prod.mk.injEq] at h
        obtain ⟨rfl, rfl, rfl, rfl⟩ := h
        have := Plb.parse_again (l := (c :: r).take (run (c :: r))) (Prod.ext rfl hz)
        show (Lib.itoa _).length = _
        rw [this, List.length_take]
        have := run_le (c :: r); omega
      · cases h
    · split at h
      · have hsz : (⟨((c :: r).take (run (c :: r))).toArray⟩ : ByteArray).size = run (c :: r) := by
          show ((c :: r).take (run (c :: r))).length = _
          have := run_le (c :: r)
          rw [List.length_take]; omega
        split at h
        · simp only [Sum.inr.injEq, Prod.mk.injEq] at h
          obtain ⟨rfl, rfl, rfl, rfl⟩ := h
          simpa [long] using hsz
        · split at h
          · cases h
          · simp only [Sum.inr.injEq, Prod.mk.injEq] at h
            obtain ⟨rfl, rfl, rfl, rfl⟩ := h
            simpa [long] using hsz
      · split at h
        · split at h
          · cases h
          · rename_i t' k' hu
            simp only [Sum.inr.injEq, Prod.mk.injEq] at h
            obtain ⟨rfl, rfl, rfl, rfl⟩ := h
            simp [long, hd, hu]
        · split at h
          · cases h
          · rename_i x hx
            simp only [Sum.inr.injEq, Prod.mk.injEq] at h
            obtain ⟨rfl, rfl, rfl, rfl⟩ := h
            have hm := (firstSign_some hx).1
            have : isT x eol = false := by
              have : ∀ y ∈ signs, isT y eol = false := by decide
              exact this x hm
            unfold long
            simp only [this]
            split <;> simp
  · intro hk
    rw [hd]
    unfold cut at h
    simp only at h
    split at h
    · split at h
      · simp only [Sum.inr.injEq, Prod.mk.injEq] at h
        obtain ⟨rfl, _⟩ := h; omega
      · cases h
    · split at h
      · split at h
        · simp only [Sum.inr.injEq, Prod.mk.injEq] at h
          obtain ⟨rfl, rfl, rfl, rfl⟩ := h
          rfl
        · split at h
          · cases h
          · simp only [Sum.inr.injEq, Prod.mk.injEq] at h
            obtain ⟨rfl, rfl, rfl, rfl⟩ := h
            rfl
      · split at h
        · split at h
          · cases h
          · simp only [Sum.inr.injEq, Prod.mk.injEq] at h
            obtain ⟨rfl, _⟩ := h; omega
        · split at h
          · cases h
          · rename_i x hx
            simp only [Sum.inr.injEq, Prod.mk.injEq] at h
            obtain ⟨rfl, rfl, rfl, rfl⟩ := h
            have hm := (firstSign_some hx).2
            exact (List.prefix_iff_eq_take.1 hm).symm
theorem semi_long (s : List UInt8) (p : Nat) (line : Int) : long s ⟨6, eol, 0, p, line⟩ = 0 := by
  have : isT eol eol = true := by decide
  simp [long, this]
theorem end_long (s : List UInt8) (p : Nat) (line : Int) : long s ⟨0, ⟨#[]⟩, 0, p, line⟩ = 0 := by
  simp [long]; rfl
/-- A semicolon that is put in. -/
theorem Good.put {s : List UInt8} {p : Nat} {line : Int} {l : List Tok} (h : Good s p line l) (hp : p ≤ s.length) (hl : l ≠ []) : Good s p line (⟨6, eol, 0, p, line⟩ :: l) :=
  ⟨p, 0, rfl, Nat.le_refl _, hp, by simp [hl], by rw [Nat.sub_self, List.take_zero]; rfl, by simp, by rw [semi_long]; omega, by simp, by rw [semi_long]; exact h⟩
theorem go_good (s : List UInt8) : ∀ (n p : Nat) (line : Int) (out : List Tok) (last : Tok) (l : List Tok), p ≤ s.length → go s n p line out last = .inr l →
    ∃ r, l = out ++ r ∧ r ≠ [] ∧ Good s p line r ∧ ∃ t, r.getLast? = some t ∧ t.pos = s.length
  | 0, _, _, _, _, _, _, h => by cases h
  | n + 1, p, line, out, last, l, hp, h => by
    unfold go at h
    split at h
    · rename_i hd
      have hps : p = s.length := by
        have := congrArg List.length hd
        rw [List.length_drop] at this
        simp only [List.length_nil] at this; omega
      simp only [Sum.inr.injEq] at h
      subst h
      have hE : Good s p line [⟨0, ⟨#[]⟩, 0, p, line⟩] := ⟨p, 0, rfl, Nat.le_refl _, hp, by simp, by rw [Nat.sub_self, List.take_zero]; rfl, by simp, by rw [end_long]; omega, by simp, trivial⟩
      unfold close
      split
      · exact ⟨[⟨6, eol, 0, p, line⟩, ⟨0, ⟨#[]⟩, 0, p, line⟩], by simp, by simp, hE.put hp (by simp), ⟨0, ⟨#[]⟩, 0, p, line⟩, rfl, by show ((p : Nat) : Int) = _; rw [hps]⟩
      · exact ⟨[⟨0, ⟨#[]⟩, 0, p, line⟩], rfl, by simp, hE, ⟨0, ⟨#[]⟩, 0, p, line⟩, rfl, by show ((p : Nat) : Int) = _; rw [hps]⟩
    · rename_i c r hd
      have hps : p + 1 ≤ s.length := by
        have := congrArg List.length hd
        rw [List.length_drop] at this
        simp only [List.length_cons] at this; omega
      split at h
      · rename_i hc
        subst hc
        obtain ⟨q, rfl, hq, hg, ht⟩ := go_good s n (p + 1) (line + 1) _ zero l hps h
        unfold close
        split
        · refine ⟨⟨6, eol, 0, p, line⟩ :: q, by simp, by simp, (hg.line hd).put hp hq, ?_⟩
          obtain ⟨t, h1, h2⟩ := ht
          exact ⟨t, by rw [List.getLast?_cons, h1]; rfl, h2⟩
        · exact ⟨q, rfl, hq, hg.line hd, ht⟩
      · split at h
        · rename_i hb
          obtain ⟨q, rfl, hq, hg, ht⟩ := go_good s n (p + 1) line _ last l hps h
          exact ⟨q, rfl, hq, hg.blank hd hb, ht⟩
        · split at h
          · rename_i hc
            rw [← hd] at hc h
            have := comment_shape hc
            obtain ⟨x, _, _, hlen, _⟩ := this
            rw [List.length_drop] at hlen
            obtain ⟨q, rfl, hq, hg, ht⟩ := go_good s n (p + Lxn.comment (s.drop p)) line _ last l (by omega) h
            exact ⟨q, rfl, hq, hg.comment hc, ht⟩
          · split at h
            · cases h
            · rename_i k t q m hcut
              have hcp := callPiece hd hcut line
              obtain ⟨r', rfl, hq, hg, ht⟩ := go_good s n (p + m) line _ _ l hcp.2.1 h
              refine ⟨⟨k, t, q, p, line⟩ :: r', by simp, by simp, ?_, ?_⟩
              · exact ⟨p, 0, rfl, Nat.le_refl _, hp, by simp [hcp.2.2.1, hq], by rw [Nat.sub_self, List.take_zero]; rfl, by simp, by rw [hcp.1]; exact hcp.2.1, by rw [hcp.1]; exact hcp.2.2.2, by rw [hcp.1]; exact hg⟩
              · obtain ⟨t', h1, h2⟩ := ht
                exact ⟨t', by rw [List.getLast?_cons, h1]; rfl, h2⟩
theorem go_err (s : List UInt8) : ∀ (n p : Nat) (line : Int) (out : List Tok) (last : Tok) (a e : Int), s.length < p + n → p ≤ s.length → go s n p line out last = .inl (a, e) → 0 ≤ a ∧ a ≤ s.length ∧ 32 ≤ e ∧ e ≤ 35
  | 0, _, _, _, _, _, _, h0, h1, _ => by omega
  | n + 1, p, line, out, last, a, e, h0, hp, h => by
    unfold go at h
    split at h
    · cases h
    · rename_i c r hd
      have hps : p + 1 ≤ s.length := by
        have := congrArg List.length hd
        rw [List.length_drop] at this
        simp only [List.length_cons] at this; omega
      split at h
      · exact go_err s n (p + 1) _ _ _ a e (by omega) hps h
      · split at h
        · exact go_err s n (p + 1) _ _ _ a e (by omega) hps h
        · split at h
          · rename_i hc
            rw [← hd] at hc h
            obtain ⟨x, _, _, hlen, _⟩ := comment_shape hc
            rw [List.length_drop] at hlen
            exact go_err s n _ _ _ _ a e (by omega) (by omega) h
          · split at h
            · rename_i e' hcut
              simp only [Sum.inl.injEq, Prod.mk.injEq] at h
              obtain ⟨rfl, rfl⟩ := h
              have : 32 ≤ e' ∧ e' ≤ 35 := by
                unfold cut at hcut
                simp only at hcut
                split at hcut
                · split at hcut
                  · cases hcut
                  · cases hcut; omega
                · split at hcut
                  · split at hcut
                    · cases hcut
                    · split at hcut
                      · cases hcut; omega
                      · cases hcut
                  · split at hcut
                    · split at hcut
                      · cases hcut; omega
                      · cases hcut
                    · split at hcut
                      · cases hcut; omega
                      · cases hcut
              omega
            · rename_i k t q m hcut
              have hcp := callPiece hd hcut line
              have := cut_facts hcut
              exact go_err s n (p + m) _ _ _ a e (by omega) hcp.2.1 h
end Go.Proofs.YtjmgfhbadnechaaDoor.Lpp
