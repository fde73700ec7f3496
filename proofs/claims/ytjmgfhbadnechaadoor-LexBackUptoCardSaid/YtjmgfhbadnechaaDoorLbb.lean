/- A joined source is scanned as its tokens. No program in sight. -/
import Derived.Test.YtjmgfhbadnechaaDoorLba
set_option linter.unusedVariables false
namespace Go.Proofs.YtjmgfhbadnechaaDoor.Lbb
open Nam Lxp Lxn Lpq Lrv Lrw Lba

/-- The text of a token of a list; the end has none. -/
def textOf (t : Tok) : ByteArray := (Lxp.written t).getD ByteArray.empty
/-- Tokens' texts, a blank between. -/
def joinR : List Tok → List UInt8
  | [] => []
  | [t] => (textOf t).data.toList
  | t :: u :: r => (textOf t).data.toList ++ 32 :: joinR (u :: r)
/-- What such a source is scanned as, from a place on. -/
def toks (line : Int) : List Tok → Nat → List Tok
  | [], _ => []
  | t :: r, p => if t.kind = 0 then [] else reread t p line :: toks line r (p + (textOf t).size + 1)
/-- A list that may be joined. -/
def Fine : List Tok → Prop
  | [] => True
  | [t] => ∃ T, Lxp.written t = some T
  | t :: r => (∃ T, Lxp.written t = some T) ∧ t.kind ≠ 0 ∧ Fine r
def Nums (l : List Tok) : Prop := ∀ t ∈ l, t.num ≤ 9223372036854775807
/-- The last one that was scanned, or what was ahead. -/
def lastly (line : Int) (last : Tok) (l : List Tok) (p : Nat) : Tok := (toks line l p).getLastD last
theorem fresh_parts {c : UInt8} (h : fresh c = true) : c ≠ 10 ∧ Lxn.blank c = false := by
  simp only [fresh, Bool.and_eq_true, bne_iff_ne, ne_eq, Bool.not_eq_true'] at h
  exact h
theorem text_is {t : Tok} {T : ByteArray} (h : Lxp.written t = some T) : textOf t = T := by unfold textOf; rw [h]; rfl
theorem text_end {t : Tok} (h : t.kind = 0) : (textOf t).data.toList = [] ∧ (textOf t).size = 0 := by
  have : Lxp.written t = some ⟨#[]⟩ := by unfold Lxp.written; rw [if_pos h]
  rw [text_is this]; exact ⟨rfl, rfl⟩
/-- One token is scanned. -/
theorem go_one {s : List UInt8} {n p : Nat} {line : Int} {out : List Tok} {last t : Tok} {T : ByteArray} {r : List UInt8} (hd : s.drop p = T.data.toList ++ r) (hw : Lxp.written t = some T) (h0 : t.kind ≠ 0) (hm : t.num ≤ 9223372036854775807) (hr : Gap r) :
    Lxn.go s (n + 1) p line out last = Lxn.go s n (p + T.size) line (out ++ [reread t p line]) (reread t p line) ∧ 1 ≤ T.size := by
  obtain ⟨h1, ⟨c, q, hc, hf⟩, h3⟩ := cut_written hw h0 hm hr
  have hcs : s.drop p = c :: (q ++ r) := by rw [hd, hc, List.cons_append]
  have hfp := fresh_parts hf
  rw [← hd] at h1 h3
  refine ⟨go_token hcs hfp.1 hfp.2 h3 h1, ?_⟩
  have := size_of T
  rw [hc, List.length_cons] at this; omega
theorem drop_more {s a b : List UInt8} {p : Nat} (h : s.drop p = a ++ b) : s.drop (p + a.length) = b := by
  rw [← List.drop_drop, h]; exact List.drop_left
theorem drop_len {s a : List UInt8} {p : Nat} (h : s.drop p = a) (hp : p ≤ s.length) : s.length = p + a.length := by
  have := congrArg List.length h
  rw [List.length_drop] at this; omega
theorem go_join (s : List UInt8) : ∀ (l : List Tok) (n p : Nat) (line : Int) (out : List Tok) (last : Tok), p ≤ s.length → s.length < p + n → s.drop p = joinR l → Fine l → Nums l →
    Lxn.go s n p line out last = .inr (Lxn.close s.length line (out ++ toks line l p) (lastly line last l p) ++ [⟨0, ⟨#[]⟩, 0, s.length, line⟩])
  | [], n, p, line, out, last, hp, hn, hd, _, _ => by
    obtain ⟨n, rfl⟩ : ∃ m, n = m + 1 := ⟨n - 1, by omega⟩
    have hps := drop_len hd hp
    simp only [joinR, List.length_nil, Nat.add_zero] at hps
    rw [go_end hd]
    simp only [toks, lastly, List.append_nil, List.getLastD_nil]
    rw [hps]
  | [t], n, p, line, out, last, hp, hn, hd, hF, hN => by
    obtain ⟨n, rfl⟩ : ∃ m, n = m + 1 := ⟨n - 1, by omega⟩
    obtain ⟨T, hw⟩ := hF
    have hd' : s.drop p = T.data.toList ++ [] := by
      rw [hd, List.append_nil]
      show (textOf t).data.toList = _
      rw [text_is hw]
    by_cases h0 : t.kind = 0
    · have he := text_end h0
      rw [text_is hw] at he
      rw [he.1] at hd'
      have hps := drop_len hd' hp
      simp only [List.append_nil, List.length_nil, Nat.add_zero] at hps
      rw [go_end hd']
      simp only [toks, lastly, h0, if_true, List.append_nil, List.getLastD_nil]
      rw [hps]
    · obtain ⟨h1, h2⟩ := go_one (n := n) (line := line) (out := out) (last := last) hd' hw h0 (hN t (by simp)) (.inl rfl)
      have hps := drop_len hd' hp
      rw [List.length_append, List.length_nil, Nat.add_zero, size_of] at hps
      obtain ⟨n, rfl⟩ : ∃ m, n = m + 1 := ⟨n - 1, by omega⟩
      have hd2 := drop_more hd'
      rw [size_of] at hd2
      rw [h1, go_end hd2]
      have e1 : toks line [t] p = [reread t p line] := by simp [toks, h0]
      have e2 : lastly line last [t] p = reread t p line := by unfold lastly; rw [e1]; rfl
      rw [e1, e2, hps]
  | t :: u :: r, n, p, line, out, last, hp, hn, hd, hF, hN => by
    obtain ⟨n, rfl⟩ : ∃ m, n = m + 1 := ⟨n - 1, by omega⟩
    obtain ⟨⟨T, hw⟩, h0, hF2⟩ := hF
    have hd' : s.drop p = T.data.toList ++ 32 :: joinR (u :: r) := by
      rw [hd]
      show (textOf t).data.toList ++ _ = _
      rw [text_is hw]
    obtain ⟨h1, h2⟩ := go_one (n := n) (line := line) (out := out) (last := last) hd' hw h0 (hN t (by simp)) (.inr rfl)
    have hps := drop_len hd' hp
    rw [List.length_append, List.length_cons, size_of] at hps
    have hd2 := drop_more hd'
    rw [size_of] at hd2
    obtain ⟨n, rfl⟩ : ∃ m, n = m + 1 := ⟨n - 1, by omega⟩
    have hd3 : s.drop (p + T.size + 1) = joinR (u :: r) := by
      rw [← List.drop_drop, hd2]; rfl
    rw [h1, go_blank hd2 (by decide) (by decide)]
    have ih := go_join s (u :: r) n (p + T.size + 1) line (out ++ [reread t p line]) (reread t p line) (by omega) (by omega) hd3 hF2 (fun x hx => hN x (by simp [hx]))
    rw [ih]
    have e1 : toks line (t :: u :: r) p = reread t p line :: toks line (u :: r) (p + T.size + 1) := by
      show (if t.kind = 0 then [] else reread t p line :: toks line (u :: r) (p + (textOf t).size + 1)) = _
      rw [if_neg h0, text_is hw]
    have e2 : lastly line last (t :: u :: r) p = lastly line (reread t p line) (u :: r) (p + T.size + 1) := by
      unfold lastly; rw [e1, List.getLastD_cons]
    rw [e1, e2, List.append_assoc]; rfl
/-- A list without its end. -/
def core (l : List Tok) : List Tok := l.takeWhile (fun t => t.kind != 0)
theorem fine_core : ∀ l : List Tok, Fine l → l = core l ∨ ∃ e, l = core l ++ [e] ∧ e.kind = 0
  | [], _ => .inl rfl
  | [t], _ => by
    by_cases h : t.kind = 0
    · right
      exact ⟨t, by simp [core, h], h⟩
    · left
      simp [core, h]
  | t :: u :: r, hF => by
    obtain ⟨_, h0, hF2⟩ := hF
    have e : core (t :: u :: r) = t :: core (u :: r) := by
      unfold core
      rw [List.takeWhile_cons, if_pos (by simpa using h0)]
    rcases fine_core (u :: r) hF2 with h | ⟨x, h, hx⟩
    · left; rw [e, ← h]
    · right; exact ⟨x, by rw [e, List.cons_append, ← h], hx⟩
theorem toks_core : ∀ (l : List Tok) (p : Nat) (line : Int), (toks line l p).length = (core l).length ∧ ∀ j, j < (core l).length → ∃ q : Nat, (toks line l p).getD j zero = reread (l.getD j zero) q line
  | [], p, line => ⟨rfl, fun j h => by simp [core] at h⟩
  | t :: r, p, line => by
    by_cases h0 : t.kind = 0
    · have e1 : toks line (t :: r) p = [] := by simp [toks, h0]
      have e2 : core (t :: r) = [] := by simp [core, h0]
      rw [e1, e2]
      exact ⟨rfl, fun j h => by simp at h⟩
    · have e1 : toks line (t :: r) p = reread t p line :: toks line r (p + (textOf t).size + 1) := by simp [toks, h0]
      have e2 : core (t :: r) = t :: core r := by
        unfold core
        rw [List.takeWhile_cons, if_pos (by simpa using h0)]
      obtain ⟨h1, h2⟩ := toks_core r (p + (textOf t).size + 1) line
      rw [e1, e2]
      refine ⟨by rw [List.length_cons, List.length_cons, h1], fun j hj => ?_⟩
      cases j with
      | zero => exact ⟨p, rfl⟩
      | succ j =>
        rw [List.length_cons] at hj
        obtain ⟨q, hq⟩ := h2 j (by omega)
        exact ⟨q, by simpa using hq⟩
theorem calls_seen (t : Tok) (p line : Int) : calls (reread t p line) = calls t := by
  obtain ⟨k, s, n, q, l⟩ := t
  unfold reread calls
  simp only
  by_cases h3 : k = 3
  · subst h3; rfl
  · by_cases h6 : k = 6
    · subst h6; rfl
    · simp [h3, h6]
/-- What the scanner makes of a joined source. -/
theorem scan_join {s : List UInt8} {l : List Tok} (hs : s.length ≤ 20000) (hd : s = joinR l) (hF : Fine l) (hN : Nums l) :
    ∃ ts, scan s = .inr ((if (core l).length = 0 then ts else if calls ((core l).getD ((core l).length - 1) zero) = true then ts ++ [⟨6, eol, 0, s.length, 1⟩] else ts) ++ [⟨0, ⟨#[]⟩, 0, s.length, 1⟩]) ∧
      ts.length = (core l).length ∧ ∀ j, j < (core l).length → ∃ q : Nat, ts.getD j zero = reread ((core l).getD j zero) q 1 := by
  have h := go_join s l (s.length + 1) 0 1 [] zero (Nat.zero_le _) (by omega) (by rw [List.drop_zero]; exact hd) hF hN
  obtain ⟨hl, hj⟩ := toks_core l 0 1
  have hcore : ∀ j, j < (core l).length → l.getD j zero = (core l).getD j zero := by
    intro j hj
    have := List.takeWhile_prefix (l := l) (fun t : Tok => t.kind != 0)
    obtain ⟨q, hq⟩ := this
    have e : l.getD j zero = (core l ++ q).getD j zero := by
      show l.getD j zero = (List.takeWhile _ l ++ q).getD j zero
      rw [hq]
    rw [e]
    rw [List.getD_eq_getElem?_getD, List.getD_eq_getElem?_getD, List.getElem?_append_left hj]
  refine ⟨toks 1 l 0, ?_, hl, fun j h => by obtain ⟨q, hq⟩ := hj j h; exact ⟨q, by rw [hq, hcore j h]⟩⟩
  unfold scan
  rw [if_neg (by omega), h, List.nil_append]
  congr 2
  by_cases h0 : (core l).length = 0
  · rw [if_pos h0]
    have e : toks 1 l 0 = [] := List.length_eq_zero_iff.1 (by rw [hl]; exact h0)
    have e2 : lastly 1 zero l 0 = zero := by unfold lastly; rw [e]; rfl
    rw [e2]
    exact close_no calls_zero
  · rw [if_neg h0]
    have e2 : calls (lastly 1 zero l 0) = calls ((core l).getD ((core l).length - 1) zero) := by
      obtain ⟨q, hq⟩ := hj ((core l).length - 1) (by omega)
      have : lastly 1 zero l 0 = (toks 1 l 0).getD ((core l).length - 1) zero := by
        unfold lastly
        rw [List.getLastD_eq_getLast?, List.getLast?_eq_getElem?, hl, List.getD_eq_getElem?_getD]
      rw [this, hq, calls_seen, hcore _ (by omega)]
    unfold Lxn.close
    rw [e2]
/-- The two ways to say a joined source. -/
theorem joinR_join : ∀ l : List Tok, joinR l = Lib.join (l.map fun t => (textOf t).data.toList) [32]
  | [] => rfl
  | [t] => by rw [List.map_cons, List.map_nil, Lib.join_one]; rfl
  | t :: u :: r => by
    have ih := joinR_join (u :: r)
    rw [List.map_cons, Lib.join_cons] at ih
    rw [List.map_cons, Lib.join_cons]
    show (textOf t).data.toList ++ 32 :: joinR (u :: r) = _
    rw [ih]; rfl
theorem fine_of : ∀ l : List Tok, (∀ k, k < l.length → (∃ T, Lxp.written (l.getD k zero) = some T) ∧ (k + 1 < l.length → (l.getD k zero).kind ≠ 0)) → Fine l
  | [], _ => trivial
  | [t], h => (h 0 (by simp)).1
  | t :: u :: r, h => by
    refine ⟨(h 0 (by simp)).1, (h 0 (by simp)).2 (by simp), fine_of (u :: r) fun k hk => ?_⟩
    have := h (k + 1) (by simpa using hk)
    refine ⟨by simpa using this.1, fun h2 => ?_⟩
    have h3 := this.2 (by simp only [List.length_cons] at h2 ⊢; omega)
    simpa using h3
theorem joined_fine {l : List Tok} {S : ByteArray} (h : Lxj.joined l = some S) : Fine l ∧ S.data.toList = joinR l := by
  unfold Lxj.joined at h
  split at h
  · rename_i hf
    have hall : ∀ k, k < l.length → (Lxj.txt l k).isSome = true := fun k hk => List.all_eq_true.1 hf k (List.mem_range.2 hk)
    have hw : ∀ k, k < l.length → Lxj.txt l k = Lxp.written (l.getD k zero) ∧ (k + 1 < l.length → (l.getD k zero).kind ≠ 0) := by
      intro k hk
      have := hall k hk
      unfold Lxj.txt Lxr.rwritten at this ⊢
      split at this
      · cases this
      · rename_i hn
        rw [if_neg hn]
        refine ⟨rfl, fun h1 h2 => hn ⟨h2, decide_eq_false (by omega)⟩⟩
    have hF : Fine l := fine_of l fun k hk => by
      refine ⟨?_, (hw k hk).2⟩
      have := hall k hk
      rw [(hw k hk).1] at this
      exact Option.isSome_iff_exists.1 this
    refine ⟨hF, ?_⟩
    simp only [Option.some.injEq] at h
    rw [← h]
    show Lxj.acc l l.length = _
    rw [← Lxk.acc_join, joinR_join]
    congr 1
    refine List.ext_getElem (by simp) fun i h1 h2 => ?_
    simp only [List.getElem_map, List.getElem_range]
    simp only [List.length_map, List.length_range] at h1
    rw [(hw i h1).1, List.getD_eq_getElem?_getD, List.getElem?_eq_getElem h1]
    rfl
  · cases h
end Go.Proofs.YtjmgfhbadnechaaDoor.Lbb
