/- Joined tokens are scanned as themselves. No program in sight. -/
import Derived.Test.YtjmgfhbadnechaaDoorLsw
set_option linter.unusedVariables false
namespace Go.Proofs.YtjmgfhbadnechaaDoor.Lba
open Nam Lxp Lxn Lpq

/-- What follows a token's text in a joined source: nothing, or a blank. -/
def Gap (r : List UInt8) : Prop := r = [] ∨ r.head? = some 32
theorem run_gap {x r : List UInt8} (hx : x.all alnum = true) (hr : Gap r) : run (x ++ r) = x.length := by
  induction x with
  | nil =>
    cases r with
    | nil => rfl
    | cons c r =>
      rcases hr with hr | hr
      · cases hr
      · simp only [List.head?_cons, Option.some.injEq] at hr
        subst hr
        exact Lrs.run_stop (by decide)
  | cons c x ih =>
    rw [List.all_cons, Bool.and_eq_true] at hx
    rw [List.cons_append, Lrs.run_go hx.1, ih hx.2, List.length_cons]
theorem take_gap (x r : List UInt8) : (x ++ r).take x.length = x := List.take_left
theorem prefix_blank : ∀ (x r b : List UInt8), (32 : UInt8) ∉ x → x.isPrefixOf (r ++ 32 :: b) = x.isPrefixOf r
  | [], _, _, _ => by simp
  | c :: x, [], b, h => by
    simp only [List.mem_cons, not_or] at h
    show (c == 32 && x.isPrefixOf b) = false
    rw [beq_false_of_ne (Ne.symm h.1), Bool.false_and]
  | c :: x, d :: r, b, h => by
    simp only [List.mem_cons, not_or] at h
    simp only [List.cons_append, List.isPrefixOf_cons_cons, prefix_blank x r b h.2]
theorem sign_noblank : ∀ s ∈ signs, (32 : UInt8) ∉ s.data.toList := by decide
theorem sign_self : ∀ s ∈ signs, firstSign s.data.toList = some s := by decide
theorem firstSign_gap {x : ByteArray} (hx : x ∈ signs) {r : List UInt8} (hr : Gap r) : firstSign (x.data.toList ++ r) = some x := by
  rw [← sign_self x hx]
  cases r with
  | nil => rw [List.append_nil]
  | cons c r =>
    rcases hr with hr | hr
    · cases hr
    · simp only [List.head?_cons, Option.some.injEq] at hr
      subst hr
      exact find_congr signs fun s hs => prefix_blank _ _ _ (sign_noblank s hs)
/-- A byte that begins a token. -/
def fresh (c : UInt8) : Bool := c != 10 && !Lxn.blank c
theorem sign_head : ∀ s ∈ signs, ∃ c q, s.data.toList = c :: q ∧ fresh c = true ∧ letter c = false ∧ digit c = false ∧ c ≠ 34 ∧ (c = 47 → q = []) := by
  intro s hs
  simp only [signs, List.mem_cons, List.not_mem_nil, or_false] at hs
  rcases hs with rfl | rfl | rfl | rfl | rfl | rfl | rfl | rfl | rfl | rfl | rfl | rfl | rfl | rfl | rfl | rfl | rfl | rfl | rfl | rfl | rfl | rfl | rfl | rfl | rfl | rfl | rfl
  all_goals exact ⟨_, _, rfl, by decide, by decide, by decide, by decide, by decide⟩
theorem words_head : ∀ s ∈ Plo.words, s.data.toList.all alnum = true ∧ ∃ c q, s.data.toList = c :: q ∧ letter c = true := by
  intro s hs
  simp only [Plo.words, List.mem_cons, List.not_mem_nil, or_false] at hs
  rcases hs with rfl | rfl | rfl | rfl | rfl | rfl | rfl | rfl | rfl | rfl | rfl | rfl | rfl | rfl | rfl | rfl | rfl | rfl | rfl | rfl | rfl | rfl | rfl | rfl | rfl | rfl | rfl | rfl
  all_goals exact ⟨by decide, _, _, rfl, by decide⟩
theorem letter_fresh {c : UInt8} (h : letter c = true) : fresh c = true ∧ c ≠ 47 ∧ c ≠ 34 := by
  have h' := of_decide_eq_true h
  have a1 : c ≠ 10 := fun e => by subst e; revert h; decide
  have a2 : c ≠ 32 := fun e => by subst e; revert h; decide
  have a3 : c ≠ 9 := fun e => by subst e; revert h; decide
  have a4 : c ≠ 13 := fun e => by subst e; revert h; decide
  have a5 : c ≠ 47 := fun e => by subst e; revert h; decide
  have a6 : c ≠ 34 := fun e => by subst e; revert h; decide
  exact ⟨by simp [fresh, Lxn.blank, a1, a2, a3, a4], a5, a6⟩
theorem digit_fresh {c : UInt8} (h : digit c = true) : fresh c = true ∧ c ≠ 47 := by
  have a1 : c ≠ 10 := fun e => by subst e; revert h; decide
  have a2 : c ≠ 32 := fun e => by subst e; revert h; decide
  have a3 : c ≠ 9 := fun e => by subst e; revert h; decide
  have a4 : c ≠ 13 := fun e => by subst e; revert h; decide
  have a5 : c ≠ 47 := fun e => by subst e; revert h; decide
  exact ⟨by simp [fresh, Lxn.blank, a1, a2, a3, a4], a5⟩
/-- What a written token is scanned as. -/
def reread (t : Tok) (p line : Int) : Tok := ⟨t.kind, if t.kind = 3 then ⟨#[]⟩ else if t.kind = 6 then semi else t.text, if t.kind = 3 then t.num else 0, p, line⟩
/-- A token's text, whatever follows, is cut as that token. -/
structure Cut (t : Tok) (T : ByteArray) (r : List UInt8) : Prop where
  cut : Lxn.cut (T.data.toList ++ r) = .inr (t.kind, if t.kind = 3 then ⟨#[]⟩ else if t.kind = 6 then semi else t.text, if t.kind = 3 then t.num else 0, T.size)
  head : ∃ c q, T.data.toList = c :: q ∧ fresh c = true
  plain : Lxn.comment (T.data.toList ++ r) = 0
theorem comment_of {c : UInt8} {q : List UInt8} (h : c ≠ 47) : Lxn.comment (c :: q) = 0 := Lrs.comment_no h
theorem size_of (x : ByteArray) : x.data.toList.length = x.size := rfl
theorem cut_name {t : Tok} {r : List UInt8} (hk : t.kind = 1) (hn : isName t.text = true) (hr : Gap r) : Cut t t.text r := by
  obtain ⟨kd, tx, nu, ps, ln⟩ := t
  simp only at hk hn
  subst hk
  unfold isName at hn
  simp only [Bool.and_eq_true, decide_eq_true_eq, Bool.not_eq_true'] at hn
  obtain ⟨⟨⟨⟨h1, h2⟩, h3⟩, h4⟩, h5⟩ := hn
  cases hx : tx.data.toList with
  | nil =>
    have := size_of tx
    rw [hx, List.length_nil] at this; omega
  | cons c q =>
    have hrun := run_gap h4 hr
    have htk := take_gap tx.data.toList r
    rw [hx] at h3 h4 hrun htk
    have hdig : digit c = false := by simpa using h3
    have hal : alnum c = true := by
      rw [List.all_cons, Bool.and_eq_true] at h4; exact h4.1
    have hlet : letter c = true := by
      unfold alnum at hal; rw [hdig, Bool.or_false] at hal; exact hal
    have hf := letter_fresh hlet
    have hlen : (c :: q).length = tx.size := by rw [← hx]; rfl
    refine ⟨?_, ⟨c, q, hx, hf.1⟩, ?_⟩
    · show Lxn.cut (tx.data.toList ++ r) = .inr (1, tx, 0, tx.size)
      rw [hx, List.cons_append]
      rw [List.cons_append] at hrun htk
      rw [Lsd.cut_let (Y := tx) hdig hlet hrun (by rw [htk, ← hx])]
      rw [h5, if_neg (by decide), if_neg (by omega), hlen]
    · show Lxn.comment (tx.data.toList ++ r) = 0
      rw [hx]; exact comment_of hf.2.1
theorem cut_word {t : Tok} {r : List UInt8} (hk : t.kind = 2) (hn : Plo.isWord t.text = true) (hr : Gap r) : Cut t t.text r := by
  obtain ⟨kd, tx, nu, ps, ln⟩ := t
  simp only at hk hn
  subst hk
  obtain ⟨h4, c, q, hx, hlet⟩ := words_head tx ((Plo.isWord_iff tx).1 hn)
  have hrun := run_gap h4 hr
  have htk := take_gap tx.data.toList r
  rw [hx] at hrun htk
  have hdig := letter_not_digit hlet
  have hf := letter_fresh hlet
  have hlen : (c :: q).length = tx.size := by rw [← hx]; rfl
  refine ⟨?_, ⟨c, q, hx, hf.1⟩, ?_⟩
  · show Lxn.cut (tx.data.toList ++ r) = .inr (2, tx, 0, tx.size)
    rw [hx, List.cons_append]
    rw [List.cons_append] at hrun htk
    rw [Lsd.cut_let (Y := tx) hdig hlet hrun (by rw [htk, ← hx])]
    rw [hn, if_pos rfl, hlen]
  · show Lxn.comment (tx.data.toList ++ r) = 0
    rw [hx]; exact comment_of hf.2.1
theorem dig_digit (c : UInt8) : Pnu.dig c = digit c := rfl
theorem itoa_dig {n : Int} (h : 0 ≤ n) : (Lib.itoa n).all digit = true ∧ Lib.itoa n ≠ [] := by
  obtain ⟨m, rfl⟩ := Int.eq_ofNat_of_zero_le h
  have e : Lib.itoa (m : Int) = Lib.decDigits m := by
    unfold Lib.itoa
    rw [if_neg (by omega)]; rfl
  rw [e]
  exact ⟨Plb.dec_dig m, Plb.dec_ne m⟩
theorem cut_int {t : Tok} {r : List UInt8} (hk : t.kind = 3) (hn : 0 ≤ t.num) (hm : t.num ≤ 9223372036854775807) (hr : Gap r) : Cut t ⟨(Lib.itoa t.num).toArray⟩ r := by
  obtain ⟨kd, tx, nu, ps, ln⟩ := t
  simp only at hk hn hm ⊢
  subst hk
  obtain ⟨hd, hne⟩ := itoa_dig hn
  have hal : (Lib.itoa nu).all alnum = true := by
    rw [List.all_eq_true] at hd ⊢
    intro c hc
    unfold alnum; rw [hd c hc, Bool.or_true]
  cases hx : Lib.itoa nu with
  | nil => exact absurd hx hne
  | cons c q =>
    have hrun := run_gap hal hr
    have htk := take_gap (Lib.itoa nu) r
    rw [hx] at hrun htk
    have hdig : digit c = true := by
      rw [hx, List.all_cons, Bool.and_eq_true] at hd; exact hd.1
    have hf := digit_fresh hdig
    have hpb := Plb.parse_back (n := nu) (by omega) hm
    rw [hx] at hpb
    refine ⟨?_, ⟨c, q, rfl, hf.1⟩, comment_of hf.2⟩
    show Lxn.cut (c :: (q ++ r)) = .inr (3, ⟨#[]⟩, nu, (c :: q).length)
    rw [List.cons_append] at hrun htk
    rw [Lsd.cut_dig (v := nu) (er := 0) hdig hrun (by rw [htk]; exact hpb), if_pos rfl]
theorem cut_text {t : Tok} {r : List UInt8} (hk : t.kind = 4) : Cut t ⟨(Plw.quote t.text.data.toList).toArray⟩ r := by
  obtain ⟨kd, tx, nu, ps, ln⟩ := t
  simp only at hk ⊢
  subst hk
  have hq : Plw.quote tx.data.toList = 34 :: (Plw.escs tx.data.toList ++ [34]) := rfl
  have hub := Plb.unquote_back tx.data.toList r
  refine ⟨?_, ⟨34, Plw.escs tx.data.toList ++ [34], hq, by decide⟩, ?_⟩
  · show Lxn.cut (Plw.quote tx.data.toList ++ r) = .inr (4, tx, 0, (Plw.quote tx.data.toList).length)
    rw [hq] at hub ⊢
    rw [List.cons_append] at hub ⊢
    rw [Lsd.cut_quo, hub]; rfl
  · show Lxn.comment (Plw.quote tx.data.toList ++ r) = 0
    rw [hq]; exact comment_of (by decide)
theorem gap_second {r : List UInt8} (hr : Gap r) : Lxn.comment (47 :: r) = 0 := by
  cases r with
  | nil => rfl
  | cons c r =>
    rcases hr with hr | hr
    · cases hr
    · simp only [List.head?_cons, Option.some.injEq] at hr
      subst hr
      exact Lrs.comment_no2 (by decide)
theorem cut_any_sign {x : ByteArray} (hx : x ∈ signs) {r : List UInt8} (hr : Gap r) :
    Lxn.cut (x.data.toList ++ r) = .inr (if isT x semi = true then 6 else 5, x, 0, x.size) ∧ (∃ c q, x.data.toList = c :: q ∧ fresh c = true) ∧ Lxn.comment (x.data.toList ++ r) = 0 := by
  obtain ⟨c, q, he, hf, hl, hd, h34, h47⟩ := sign_head x hx
  have hfs := firstSign_gap hx hr
  rw [he, List.cons_append] at hfs
  refine ⟨?_, ⟨c, q, he, hf⟩, ?_⟩
  · rw [he, List.cons_append, Lru.cut_sign hl hd h34, hfs]
  · rw [he, List.cons_append]
    by_cases h : c = 47
    · rw [h47 h, h, List.nil_append]; exact gap_second hr
    · exact comment_of h
theorem cut_sign5 {t : Tok} {r : List UInt8} (hk : t.kind = 5) (h1 : isT t.text semi = false) (h2 : within signs t.text = true) (hr : Gap r) : Cut t t.text r := by
  obtain ⟨kd, tx, nu, ps, ln⟩ := t
  simp only at hk h1 h2 ⊢
  subst hk
  obtain ⟨a, b, c⟩ := cut_any_sign ((Lxp.within_iff _ _).1 h2) hr
  refine ⟨?_, b, c⟩
  rw [a, h1]; rfl
theorem cut_semi {t : Tok} {r : List UInt8} (hk : t.kind = 6) (hr : Gap r) : Cut t semi r := by
  obtain ⟨kd, tx, nu, ps, ln⟩ := t
  simp only at hk ⊢
  subst hk
  obtain ⟨a, b, c⟩ := cut_any_sign (x := semi) ((Lxp.within_iff _ _).1 (by decide)) hr
  refine ⟨?_, b, c⟩
  have h1 : isT semi semi = true := by decide
  rw [a, h1]; rfl
theorem cut_written {t : Tok} {T : ByteArray} {r : List UInt8} (h : Lxp.written t = some T) (h0 : t.kind ≠ 0) (hm : t.num ≤ 9223372036854775807) (hr : Gap r) : Cut t T r := by
  unfold Lxp.written at h
  rw [if_neg h0] at h
  split at h
  · rename_i hk
    split at h
    · rename_i hn; cases h; exact cut_name hk hn hr
    · cases h
  split at h
  · rename_i hk
    split at h
    · rename_i hn; cases h; exact cut_word hk hn hr
    · cases h
  split at h
  · rename_i hk
    split at h
    · rename_i hn; cases h; exact cut_int hk hn hm hr
    · cases h
  split at h
  · rename_i hk
    cases h; exact cut_text hk
  split at h
  · rename_i hk
    split at h
    · rename_i hn; cases h; exact cut_sign5 hk hn.1 hn.2 hr
    · cases h
  split at h
  · rename_i hk
    split at h
    · cases h; exact cut_semi hk hr
    · cases h
  · cases h
end Go.Proofs.YtjmgfhbadnechaaDoor.Lba
