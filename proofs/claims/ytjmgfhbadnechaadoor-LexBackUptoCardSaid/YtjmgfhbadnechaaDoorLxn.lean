/- A source's tokens, as a plain function. No program in sight. -/
import Derived.Test.YtjmgfhbadnechaaDoorLxp
import Derived.Test.YtjmgfhbadnechaaDoorPnu
set_option linter.unusedVariables false
namespace Go.Proofs.YtjmgfhbadnechaaDoor.Lxn
open Nam Lxp

/-- How many letters and digits stand at the head. -/
def run (r : List UInt8) : Nat := (r.takeWhile alnum).length
def firstSign (r : List UInt8) : Option ByteArray := signs.find? (fun s => s.data.toList.isPrefixOf r)
/-- What the token at the head is made of: kind, text, number, bytes; or its error. -/
abbrev Piece := Int × ByteArray × Int × Nat
def cut (r : List UInt8) : Int ⊕ Piece :=
  match r with
  | [] => .inl 32
  | c :: _ =>
    if digit c = true then (if (Pnu.parse (r.take (run r))).2 = 0 then .inr (3, ⟨#[]⟩, (Pnu.parse (r.take (run r))).1, run r) else .inl 33)
    else if letter c = true then
      (if Plo.isWord ⟨(r.take (run r)).toArray⟩ = true then .inr (2, ⟨(r.take (run r)).toArray⟩, 0, run r)
       else if 30 < run r then .inl 35 else .inr (1, ⟨(r.take (run r)).toArray⟩, 0, run r))
    else if c = 34 then (match Plw.unquote r with | none => .inl 34 | some (t, k) => .inr (4, ⟨t.toArray⟩, 0, k))
    else (match firstSign r with | none => .inl 32 | some s => .inr (if isT s semi = true then 6 else 5, s, 0, s.size))

def callWords : List ByteArray := [⟨#[98, 114, 101, 97, 107]⟩, ⟨#[99, 111, 110, 116, 105, 110, 117, 101]⟩, ⟨#[114, 101, 116, 117, 114, 110]⟩, ⟨#[105, 110, 116]⟩, ⟨#[98, 111, 111, 108]⟩, ⟨#[77, 117, 116, 101, 120]⟩, ⟨#[87, 97, 105, 116, 71, 114, 111, 117, 112]⟩, ⟨#[116, 114, 117, 101]⟩, ⟨#[102, 97, 108, 115, 101]⟩, ⟨#[110, 105, 108]⟩]
def callSigns : List ByteArray := [⟨#[41]⟩, ⟨#[125]⟩, ⟨#[43, 43]⟩, ⟨#[45, 45]⟩]
/-- Does a token call for a semicolon at its line's end? -/
def calls (t : Tok) : Bool :=
  if t.kind = 1 ∨ t.kind = 3 ∨ t.kind = 4 then true
  else if t.kind = 2 then within callWords t.text
  else if t.kind = 5 then within callSigns t.text
  else false
/-- The tokens at a line's end. -/
def close (p : Nat) (line : Int) (out : List Tok) (last : Tok) : List Tok := if calls last = true then out ++ [⟨6, eol, 0, p, line⟩] else out
def blank (c : UInt8) : Bool := c == 32 || c == 9 || c == 13
/-- How many bytes of a comment stand at the head. -/
def comment (r : List UInt8) : Nat := match r with
  | 47 :: 47 :: _ => (r.takeWhile (· != 10)).length
  | _ => 0
def go (s : List UInt8) : Nat → Nat → Int → List Tok → Tok → (Int × Int) ⊕ List Tok
  | 0, _, _, _, _ => .inl (0, 0)
  | n + 1, p, line, out, last => match s.drop p with
    | [] => .inr (close p line out last ++ [⟨0, ⟨#[]⟩, 0, p, line⟩])
    | c :: r =>
      if c = 10 then go s n (p + 1) (line + 1) (close p line out last) zero
      else if blank c = true then go s n (p + 1) line out last
      else if 0 < comment (c :: r) then go s n (p + comment (c :: r)) line out last
      else match cut (c :: r) with
        | .inl e => .inl ((p : Int), e)
        | .inr (k, t, q, m) => go s n (p + m) line (out ++ [⟨k, t, q, p, line⟩]) ⟨k, t, q, p, line⟩
def scan (s : List UInt8) : (Int × Int) ⊕ List Tok := if 20000 < s.length then .inl (0, 31) else go s (s.length + 1) 0 1 [] zero

theorem run_le (r : List UInt8) : run r ≤ r.length := by
  unfold run; exact (List.takeWhile_sublist _).length_le
theorem run_pos {c : UInt8} {r : List UInt8} (h : alnum c = true) : 1 ≤ run (c :: r) := by
  unfold run; rw [List.takeWhile_cons, if_pos h]; simp
theorem unquote_le {l t : List UInt8} {k : Nat} (h : Plw.unquote l = some (t, k)) : 1 ≤ k ∧ k ≤ l.length ∧ t.length ≤ l.length := by
  cases l with
  | nil => cases h
  | cons c r =>
    unfold Plw.unquote at h
    simp only at h
    split at h
    · have := Plb.body_facts r.length r [] 1 t k (Nat.le_refl _) h
      simp only [List.length_cons, List.length_nil] at this ⊢
      omega
    · cases h
theorem firstSign_some {r : List UInt8} {s : ByteArray} (h : firstSign r = some s) : s ∈ signs ∧ s.data.toList <+: r := by
  unfold firstSign at h
  refine ⟨List.mem_of_find?_eq_some h, ?_⟩
  have := List.find?_some h
  simpa using this
theorem signs_pos : ∀ s ∈ signs, 1 ≤ s.size ∧ s.size ≤ 2 := by decide
/-- What a piece is. -/
theorem cut_facts {r : List UInt8} {k q : Int} {t : ByteArray} {m : Nat} (h : cut r = .inr (k, t, q, m)) :
    1 ≤ m ∧ m ≤ r.length ∧ t.size ≤ r.length ∧ 1 ≤ k ∧ k ≤ 6 ∧ -9223372036854775808 ≤ q ∧ q ≤ 9223372036854775807 := by
  cases r with
  | nil => cases h
  | cons c r =>
    have hrun := run_le (c :: r)
    unfold cut at h
    simp only at h
    split at h
    · rename_i hd
      have hp := run_pos (c := c) (r := r) (by simp [alnum, hd])
      split at h
      · rename_i hz
        simp only [Sum.inr.injEq, Prod.mk.injEq] at h
        obtain ⟨rfl, rfl, rfl, rfl⟩ := h
        have := Plb.parse_bounds (l := (c :: r).take (run (c :: r))) (Prod.ext rfl hz)
        exact ⟨hp, hrun, by show 0 ≤ _; omega, by omega, by omega, this.1, this.2⟩
      · cases h
    · split at h
      · rename_i hl
        have hp := run_pos (c := c) (r := r) (by simp [alnum, hl])
        have hsz : (⟨((c :: r).take (run (c :: r))).toArray⟩ : ByteArray).size ≤ (c :: r).length := by
          show ((c :: r).take (run (c :: r))).length ≤ _
          rw [List.length_take]; omega
        split at h
        · simp only [Sum.inr.injEq, Prod.mk.injEq] at h
          obtain ⟨rfl, rfl, rfl, rfl⟩ := h
          exact ⟨hp, hrun, hsz, by omega, by omega, by omega, by omega⟩
        · split at h
          · cases h
          · simp only [Sum.inr.injEq, Prod.mk.injEq] at h
            obtain ⟨rfl, rfl, rfl, rfl⟩ := h
            exact ⟨hp, hrun, hsz, by omega, by omega, by omega, by omega⟩
      · split at h
        · split at h
          · cases h
          · rename_i t' k' hu
            simp only [Sum.inr.injEq, Prod.mk.injEq] at h
            obtain ⟨rfl, rfl, rfl, rfl⟩ := h
            have := unquote_le hu
            exact ⟨this.1, this.2.1, this.2.2, by omega, by omega, by omega, by omega⟩
        · split at h
          · cases h
          · rename_i s hs
            simp only [Sum.inr.injEq, Prod.mk.injEq] at h
            obtain ⟨rfl, rfl, rfl, rfl⟩ := h
            have hm := firstSign_some hs
            have h1 := signs_pos _ hm.1
            have h2 : s.size ≤ (c :: r).length := hm.2.length_le
            exact ⟨h1.1, h2, h2, by split <;> omega, by split <;> omega, by omega, by omega⟩
end Go.Proofs.YtjmgfhbadnechaaDoor.Lxn
