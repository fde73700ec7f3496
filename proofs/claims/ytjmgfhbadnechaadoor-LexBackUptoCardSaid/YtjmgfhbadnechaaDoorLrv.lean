/- drowseref03.Scan. -/
import Derived.Test.YtjmgfhbadnechaaDoorLru
import Derived.Test.YtjmgfhbadnechaaDoorApt
import Derived.Test.YtjmgfhbadnechaaDoorLpp
set_option linter.unusedVariables false
namespace Go.Proofs.YtjmgfhbadnechaaDoor.Lrv
open Go.RowKit Wrd Nam Lxp Lxw Lxr Lxk Lxs Lrs Lrt Lru Apt

theorem token_any (s : ByteArray) (p : Nat) (w : World) (hp : p < s.size) (hs : s.size ≤ 1048576) :
    Calls Tryd.prog 25 #[.string s, .int .i64 p] w fun e w' => e = .returned (pieceV (Lxn.cut (s.data.toList.drop p))) ∧ Below w.heap.size w w' := by
  cases hl : letter s[p] with
  | true => exact token_letter s p w hp hs hl
  | false =>
  cases hd : digit s[p] with
  | true => exact token_digit s p w hp hs hl hd
  | false =>
  cases hq : ((s[p].toNat : Int) == 34) with
  | true => exact token_quote s p w hp hs (UInt8.toNat_inj.1 (by have := eq_of_beq hq; show s[p].toNat = 34; omega))
  | false => exact token_sign s p w hp hs hl hd hq

/-- How Scan answers. -/
def Scanned (B : Nat) (r : (Int × Int) ⊕ List Tok) (e : Ending) (w' : World) : Prop := match r with
  | .inl (a, er) => e = .returned (.tuple #[.slice none 0 0, .int .i64 a, .int .i64 er])
  | .inr l => ∃ v, e = .returned (.tuple #[v, .int .i64 0, .int .i64 0]) ∧ OwnT B v l w'

/-- The block of a token. -/
def TokBlk (w : World) (g : Nat) (t : Tok) : Prop := w.heap[g]? = some (.cells #[.int .i64 t.kind, .string t.text, .int .i64 t.num, .int .i64 t.pos, .int .i64 t.line] 42 (0, 0))
theorem TokBlk.cells {w : World} {g : Nat} {t : Tok} (h : TokBlk w g t) :
    (w.cell? ⟨g, 0, none⟩ = some (.int .i64 t.kind) ∧ w.cell? ⟨g, 1, none⟩ = some (.string t.text) ∧ w.cell? ⟨g, 2, none⟩ = some (.int .i64 t.num) ∧ w.cell? ⟨g, 3, none⟩ = some (.int .i64 t.pos) ∧ w.cell? ⟨g, 4, none⟩ = some (.int .i64 t.line)) ∧
    w.frozen? ⟨g, 0, none⟩ = false ∧ w.frozen? ⟨g, 1, none⟩ = false ∧ w.frozen? ⟨g, 2, none⟩ = false ∧ w.frozen? ⟨g, 3, none⟩ = false ∧ w.frozen? ⟨g, 4, none⟩ = false := by
  have h : w.heap[g]? = some (.cells #[.int .i64 t.kind, .string t.text, .int .i64 t.num, .int .i64 t.pos, .int .i64 t.line] 42 (0, 0)) := h
  refine ⟨⟨?_, ?_, ?_, ?_, ?_⟩, ?_, ?_, ?_, ?_, ?_⟩
  all_goals first | (rw [cell_of_row w g _ _ _ _ h]; rfl) | exact frozen_of_row w g _ _ _ h
theorem TokBlk.below {w w' : World} {g B : Nat} {t : Tok} (h : TokBlk w g t) (hb : Below B w w') (hg : g < B) : TokBlk w' g t := (hb.block g hg).trans h
/-- What a round does: a line's end, a blank, a comment, a token. -/
theorem go_line {s : List UInt8} {n p : Nat} {line : Int} {out : List Tok} {last : Tok} {r : List UInt8} (h : s.drop p = 10 :: r) : Lxn.go s (n + 1) p line out last = Lxn.go s n (p + 1) (line + 1) (Lxn.close p line out last) zero := by
  conv => lhs; unfold Lxn.go
  rw [h]; rfl
theorem go_blank {s : List UInt8} {n p : Nat} {line : Int} {out : List Tok} {last : Tok} {c : UInt8} {r : List UInt8} (h : s.drop p = c :: r) (hc : c ≠ 10) (hb : Lxn.blank c = true) : Lxn.go s (n + 1) p line out last = Lxn.go s n (p + 1) line out last := by
  conv => lhs; unfold Lxn.go
  rw [h]
  show (if c = 10 then _ else if Lxn.blank c = true then _ else _) = _
  rw [if_neg hc, if_pos hb]
theorem go_comment {s : List UInt8} {n p : Nat} {line : Int} {out : List Tok} {last : Tok} (h : 0 < Lxn.comment (s.drop p)) : Lxn.go s (n + 1) p line out last = Lxn.go s n (p + Lxn.comment (s.drop p)) line out last := by
  obtain ⟨r, hr⟩ : ∃ r, s.drop p = 47 :: 47 :: r := by
    unfold Lxn.comment at h
    split at h
    · rename_i r e; exact ⟨r, e⟩
    · omega
  conv => lhs; unfold Lxn.go
  rw [hr] at h ⊢
  show (if (47 : UInt8) = 10 then _ else if Lxn.blank 47 = true then _ else if 0 < Lxn.comment (47 :: 47 :: r) then _ else _) = _
  rw [if_neg (by decide), if_neg (by decide), if_pos h]
theorem go_bad {s : List UInt8} {n p : Nat} {line : Int} {out : List Tok} {last : Tok} {c : UInt8} {r : List UInt8} {e : Int} (h : s.drop p = c :: r) (hc : c ≠ 10) (hb : Lxn.blank c = false) (hm : Lxn.comment (s.drop p) = 0) (hk : Lxn.cut (s.drop p) = .inl e) :
    Lxn.go s (n + 1) p line out last = .inl ((p : Int), e) := by
  conv => lhs; unfold Lxn.go
  rw [h] at hm hk ⊢
  show (if c = 10 then _ else if Lxn.blank c = true then _ else if 0 < Lxn.comment (c :: r) then _ else _) = _
  rw [if_neg hc, hb, if_neg (by decide), if_neg (by omega), hk]
theorem go_token {s : List UInt8} {n p : Nat} {line : Int} {out : List Tok} {last : Tok} {c : UInt8} {r : List UInt8} {k q : Int} {t : ByteArray} {m : Nat} (h : s.drop p = c :: r) (hc : c ≠ 10) (hb : Lxn.blank c = false) (hm : Lxn.comment (s.drop p) = 0) (hk : Lxn.cut (s.drop p) = .inr (k, t, q, m)) :
    Lxn.go s (n + 1) p line out last = Lxn.go s n (p + m) line (out ++ [⟨k, t, q, p, line⟩]) ⟨k, t, q, p, line⟩ := by
  conv => lhs; unfold Lxn.go
  rw [h] at hm hk ⊢
  show (if c = 10 then _ else if Lxn.blank c = true then _ else if 0 < Lxn.comment (c :: r) then _ else _) = _
  rw [if_neg hc, hb, if_neg (by decide), if_neg (by omega), hk]
theorem go_end {s : List UInt8} {n p : Nat} {line : Int} {out : List Tok} {last : Tok} (h : s.drop p = []) : Lxn.go s (n + 1) p line out last = .inr (Lxn.close p line out last ++ [⟨0, ⟨#[]⟩, 0, p, line⟩]) := by
  conv => lhs; unfold Lxn.go
  rw [h]
theorem close_yes {p : Nat} {line : Int} {out : List Tok} {last : Tok} (h : Lxn.calls last = true) : Lxn.close p line out last = out ++ [⟨6, ⟨#[10]⟩, 0, p, line⟩] := by unfold Lxn.close; rw [if_pos h]; rfl
theorem close_no {p : Nat} {line : Int} {out : List Tok} {last : Tok} (h : Lxn.calls last = false) : Lxn.close p line out last = out := by unfold Lxn.close; rw [if_neg (by rw [h]; decide)]
theorem cut_err {r : List UInt8} {e : Int} (h : Lxn.cut r = .inl e) : 32 ≤ e ∧ e ≤ 35 := by
  cases r with
  | nil => cases h; omega
  | cons c r =>
    unfold Lxn.cut at h
    simp only at h
    split at h
    · split at h
      · cases h
      · cases h; omega
    · split at h
      · split at h
        · cases h
        · split at h
          · cases h; omega
          · cases h
      · split at h
        · split at h
          · cases h; omega
          · cases h
        · split at h
          · cases h; omega
          · cases h
/-- A token is written into a block. -/
def laidTok (w : World) (g : Nat) (t : Tok) : World := ((((w.setCell ⟨g, 0, none⟩ (.int .i64 t.kind)).setCell ⟨g, 1, none⟩ (.string t.text)).setCell ⟨g, 2, none⟩ (.int .i64 t.num)).setCell ⟨g, 3, none⟩ (.int .i64 t.pos)).setCell ⟨g, 4, none⟩ (.int .i64 t.line)
theorem stored_blk {w : World} {g : Nat} {t0 : Tok} (h : TokBlk w g t0) (t : Tok) : TokBlk (laidTok w g t) g t := tok_stored h
theorem stored_other (w : World) (g : Nat) (t : Tok) (b : Nat) (h : b ≠ g) : (laidTok w g t).heap[b]? = w.heap[b]? := by
  unfold laidTok
  rw [heap_setCell_other _ _ _ _ h, heap_setCell_other _ _ _ _ h, heap_setCell_other _ _ _ _ h, heap_setCell_other _ _ _ _ h, heap_setCell_other _ _ _ _ h]
theorem stored_below {B : Nat} {w0 w : World} {g : Nat} (h : Below B w0 w) (hg : B ≤ g) (t : Tok) : Below B w0 (laidTok w g t) :=
  ((((h.setCell (p := ⟨g, 0, none⟩) hg _).setCell (p := ⟨g, 1, none⟩) hg _).setCell (p := ⟨g, 2, none⟩) hg _).setCell (p := ⟨g, 3, none⟩) hg _).setCell (p := ⟨g, 4, none⟩) hg _
theorem stored_size (w : World) (g : Nat) (t : Tok) : (laidTok w g t).heap.size = w.heap.size := by
  unfold laidTok; simp
end Go.Proofs.YtjmgfhbadnechaaDoor.Lrv
