/- The walk of LexParts. -/
import Derived.Test.YtjmgfhbadnechaaDoorLsw
set_option linter.unusedVariables false
namespace Go.Proofs.YtjmgfhbadnechaaDoor.Lpw
open Go.RowKit Wrd Nam Env Num Lxp Lxw Lxr Lxk Lxs Lxj Lrs Lrt Lru Apt Lrv Lrc Lrw Lsa Lsb Lsc Lsd Lse Lss Lsw

set_option maxHeartbeats 1000000 in
set_option maxRecDepth 100000 in
theorem scan_big (s : ByteArray) (w : World) (hs : 20000 < s.size) (hm : s.size ≤ 1099511627776) :
    Calls Tryd.prog 14 #[.string s] w fun e w' => Lse.Told w.heap.size (.inl (0, 31)) e w' ∧ Below w.heap.size w w' := by
  go_enter Tryd.func14, Tryd.ntmps14
  go_wp2
  go_ret2
  exact ⟨⟨w.heap.size, rfl, Nat.le_refl _, heap_alloc_new w _⟩, (Below.refl _ w).alloc (Nat.le_refl _) _⟩
theorem scan_all (s : ByteArray) (w : World) (hs : s.size ≤ 1099511627776) (hE : Env w) :
    Calls Tryd.prog 14 #[.string s] w fun e w' => Lse.Told w.heap.size (Lxn.scan s.data.toList) e w' ∧ Below w.heap.size w w' := by
  by_cases h : 20000 < s.size
  · rw [show Lxn.scan s.data.toList = .inl (0, 31) from if_pos h]
    exact scan_big s w h hs
  · exact scan_any s w (by omega) hE
/-- Some answer. -/
theorem lex_some (s : ByteArray) (w : World) (hs : s.size ≤ 1099511627776) (hE : Env w) :
    Calls Tryd.prog 14 #[.string s] w fun e w' => ∃ A n c er, e = .returned (.tuple #[.slice A n c, er]) ∧ Below w.heap.size w w' :=
  (scan_all s w hs hE).mono fun e w' ⟨h1, h2⟩ => by
    unfold Lse.Told at h1
    split at h1
    · obtain ⟨N, he, _⟩ := h1
      exact ⟨_, _, _, _, he, h2⟩
    · obtain ⟨v, he, hO⟩ := h1
      obtain ⟨A, c, rfl⟩ := OwnT.shape hO
      exact ⟨_, _, _, _, he, h2⟩
theorem lex_err {s : ByteArray} {a er : Int} (h : Lxn.scan s.data.toList = .inl (a, er)) (hs : s.size ≤ 1099511627776) (w : World) (hE : Env w) :
    Calls Tryd.prog 14 #[.string s] w fun e w' => ∃ N, e = .returned (.tuple #[.slice none 0 0, .iface 56 (.pointer (some ⟨N, 0, none⟩))]) ∧ Below w.heap.size w w' :=
  (scan_all s w hs hE).mono fun e w' ⟨h1, h2⟩ => by
    rw [h] at h1
    obtain ⟨N, he, _, hN⟩ := h1
    exact ⟨N, he, h2⟩
theorem own_some {B : Nat} {A : Option Addr} {c : Nat} {l : List Tok} {w : World} (h : OwnT B (.slice A l.length c) l w) (hl : l ≠ []) : ∃ b o, A = some ⟨b, o, none⟩ ∧ b < w.heap.size ∧ Toks w b o l := by
  rcases OwnT.lies h with ⟨h0, _⟩ | ⟨b, o, c', hv, h1, h2⟩
  · exact absurd h0 hl
  · simp only [Value.slice.injEq] at hv
    exact ⟨b, o, hv.1, h1, h2⟩
theorem scan_a : Lxn.scan (⟨#[97]⟩ : ByteArray).data.toList = .inr [⟨1, ⟨#[97]⟩, 0, 0, 1⟩, ⟨6, ⟨#[10]⟩, 0, 1, 1⟩, ⟨0, ⟨#[]⟩, 0, 1, 1⟩] := by rfl
theorem join_data (a b : ByteArray) : (a ++ ⟨#[10]⟩ ++ b).data.toList = a.data.toList ++ 10 :: b.data.toList := by
  simp [ByteArray.data_append]
theorem join_size (a b : ByteArray) : (a ++ ⟨#[10]⟩ ++ b).size = a.size + 1 + b.size := by
  have h : (a ++ ⟨#[10]⟩ ++ b).data.toList.length = (a.data.toList ++ 10 :: b.data.toList).length := by rw [join_data]
  rw [List.length_append, List.length_cons] at h
  have e1 : (a ++ ⟨#[10]⟩ ++ b).data.toList.length = (a ++ ⟨#[10]⟩ ++ b).size := rfl
  have e2 : a.data.toList.length = a.size := rfl
  have e3 : b.data.toList.length = b.size := rfl
  omega
theorem scan_one (w : World) (hE : Env w) :
    Calls Tryd.prog 14 #[.string ⟨#[97]⟩] w fun e w' => ∃ A c, e = .returned (.tuple #[.slice A 3 c, .nilIface]) ∧ Below w.heap.size w w' :=
  (lex_ok scan_a (by decide) w hE).mono fun e w' ⟨A, c, h1, _, h2⟩ => ⟨A, c, h1, h2⟩
set_option maxHeartbeats 4000000 in
set_option maxRecDepth 100000 in
theorem walk_a (a b : ByteArray) (p er : Int) (w : World) (ha : a.size ≤ 1048576) (hb : b.size ≤ 1048576) (hE : Hid (Env w)) (h : Hid (Lxn.scan a.data.toList = .inl (p, er))) :
    Calls Tryd.prog 6 #[.string a, .string b] w fun e w' => e = .returned (.bool true) ∧ Below w.heap.size w w' := by
  have hJ := join_size a b
  go_enter Tryd.func6, Tryd.ntmps6
  go_wp2_with fail
  refine (lex_err h.out (by omega) _ hE.out).mono ?_
  rintro e w1 ⟨N, rfl, hb1⟩
  go_wp2_with fail
  refine (lex_some b _ (by omega) (hE.out.below hb1)).mono ?_
  rintro e w2 ⟨A2, n2, cp2, er2, rfl, hb2⟩
  have hb2' := hb1.trans (hb2.mono hb1.size)
  go_wp2_with fail
  refine (lex_some _ _ (by rw [hJ]; omega) (hE.out.below hb2')).mono ?_
  rintro e w3 ⟨A3, n3, cp3, er3, rfl, hb3⟩
  have hb3' := hb2'.trans (hb3.mono hb2'.size)
  go_wp2_with fail
  refine (scan_one _ (hE.out.below hb3')).mono ?_
  rintro e w4 ⟨A4, cp4, rfl, hb4⟩
  go_wp2
  go_ret
  exact ⟨rfl, hb3'.trans (hb4.mono hb3'.size)⟩
set_option maxHeartbeats 4000000 in
set_option maxRecDepth 100000 in
theorem walk_b (a b : ByteArray) (l : List Tok) (p er : Int) (w : World) (ha : a.size ≤ 1048576) (hb : b.size ≤ 1048576) (hE : Hid (Env w)) (h1 : Hid (Lxn.scan a.data.toList = .inr l)) (h : Hid (Lxn.scan b.data.toList = .inl (p, er))) :
    Calls Tryd.prog 6 #[.string a, .string b] w fun e w' => e = .returned (.bool true) ∧ Below w.heap.size w w' := by
  have hJ := join_size a b
  go_enter Tryd.func6, Tryd.ntmps6
  go_wp2_with fail
  refine (lex_ok h1.out ha _ hE.out).mono ?_
  rintro e w1 ⟨A1, cp1, rfl, _, hb1⟩
  go_wp2_with fail
  refine (lex_err h.out (by omega) _ (hE.out.below hb1)).mono ?_
  rintro e w2 ⟨N, rfl, hb2⟩
  have hb2' := hb1.trans (hb2.mono hb1.size)
  go_wp2_with fail
  refine (lex_some _ _ (by rw [hJ]; omega) (hE.out.below hb2')).mono ?_
  rintro e w3 ⟨A3, n3, cp3, er3, rfl, hb3⟩
  have hb3' := hb2'.trans (hb3.mono hb2'.size)
  go_wp2_with fail
  refine (scan_one _ (hE.out.below hb3')).mono ?_
  rintro e w4 ⟨A4, cp4, rfl, hb4⟩
  go_wp2
  go_ret
  exact ⟨rfl, hb3'.trans (hb4.mono hb3'.size)⟩
set_option maxHeartbeats 4000000 in
set_option maxRecDepth 100000 in
theorem walk_long (a b : ByteArray) (l m : List Tok) (w : World) (ha : a.size ≤ 1048576) (hb : b.size ≤ 1048576) (hE : Hid (Env w)) (h1 : Hid (Lxn.scan a.data.toList = .inr l)) (h : Hid (Lxn.scan b.data.toList = .inr m)) (hlong : 20000 < a.size + 1 + b.size) :
    Calls Tryd.prog 6 #[.string a, .string b] w fun e w' => e = .returned (.bool true) ∧ Below w.heap.size w w' := by
  have hJ := join_size a b
  go_enter Tryd.func6, Tryd.ntmps6
  go_wp2_with fail
  refine (lex_ok h1.out ha _ hE.out).mono ?_
  rintro e w1 ⟨A1, cp1, rfl, _, hb1⟩
  go_wp2_with fail
  refine (lex_ok h.out hb _ (hE.out.below hb1)).mono ?_
  rintro e w2 ⟨A2, cp2, rfl, _, hb2⟩
  have hb2' := hb1.trans (hb2.mono hb1.size)
  go_wp2_with fail
  refine (lex_some _ _ (by rw [hJ]; omega) (hE.out.below hb2')).mono ?_
  rintro e w3 ⟨A3, n3, cp3, er3, rfl, hb3⟩
  have hb3' := hb2'.trans (hb3.mono hb2'.size)
  go_wp2_with fail
  refine (scan_one _ (hE.out.below hb3')).mono ?_
  rintro e w4 ⟨A4, cp4, rfl, hb4⟩
  go_wp2
  go_ret
  exact ⟨rfl, hb3'.trans (hb4.mono hb3'.size)⟩
/-- Where the tokens stand, roughly. -/
def Near (n : Nat) (t : Tok) : Prop := 0 ≤ t.pos ∧ t.pos ≤ n ∧ 1 ≤ t.line ∧ t.line ≤ n + 1
theorem go_near (s : List UInt8) : ∀ (n p : Nat) (line : Int) (out : List Tok) (last : Tok) (l : List Tok), p ≤ s.length → 1 ≤ line → line ≤ p + 1 → (∀ t ∈ out, Near s.length t) → Lxn.go s n p line out last = .inr l → ∀ t ∈ l, Near s.length t
  | 0, _, _, _, _, _, _, _, _, _, h => by cases h
  | n + 1, p, line, out, last, l, hp, l0, l1, ho, h => by
    have hcl : ∀ t ∈ Lxn.close p line out last, Near s.length t := by
      unfold Lxn.close
      split
      · intro t ht
        rw [List.mem_append, List.mem_singleton] at ht
        rcases ht with ht | rfl
        · exact ho t ht
        · exact ⟨by show (0 : Int) ≤ (p : Int); omega, by show (p : Int) ≤ _; omega, l0, by show line ≤ _; omega⟩
      · exact ho
    cases hd : s.drop p with
    | nil =>
      rw [go_end hd] at h
      simp only [Sum.inr.injEq] at h
      subst h
      intro t ht
      rw [List.mem_append, List.mem_singleton] at ht
      rcases ht with ht | rfl
      · exact hcl t ht
      · exact ⟨by show (0 : Int) ≤ (p : Int); omega, by show (p : Int) ≤ _; omega, l0, by show line ≤ _; omega⟩
    | cons c r =>
      have hps : p + 1 ≤ s.length := by
        have := congrArg List.length hd
        rw [List.length_drop] at this
        simp only [List.length_cons] at this; omega
      by_cases hc : c = 10
      · subst hc
        rw [go_line hd] at h
        exact go_near s n (p + 1) _ _ _ l hps (by omega) (by omega) hcl h
      · cases hb : Lxn.blank c with
        | true =>
          rw [go_blank hd hc hb] at h
          exact go_near s n (p + 1) _ _ _ l hps l0 (by omega) ho h
        | false =>
          by_cases hm : 0 < Lxn.comment (s.drop p)
          · rw [go_comment hm] at h
            have hl := comment_le (s.drop p)
            rw [List.length_drop] at hl
            exact go_near s n _ _ _ _ l (by omega) l0 (by omega) ho h
          · cases hk : Lxn.cut (s.drop p) with
            | inl e =>
              rw [go_bad hd hc hb (by omega) hk] at h
              cases h
            | inr x =>
              obtain ⟨k, t, q, m⟩ := x
              have hcp := Lpp.callPiece hd (by rw [← hd]; exact hk) line
              have hm1 := (Lxn.cut_facts hk).1
              rw [go_token hd hc hb (by omega) hk] at h
              refine go_near s n _ _ _ _ l hcp.2.1 l0 (by omega) ?_ h
              intro t ht
              rw [List.mem_append, List.mem_singleton] at ht
              rcases ht with ht | rfl
              · exact ho t ht
              · exact ⟨by show (0 : Int) ≤ (p : Int); omega, by show (p : Int) ≤ _; omega, l0, by show line ≤ _; omega⟩
theorem scan_near {s : List UInt8} {l : List Tok} (h : Lxn.scan s = .inr l) : ∀ t ∈ l, Near s.length t :=
  go_near s _ _ _ _ _ l (Nat.zero_le _) (by omega) (by omega) (fun t ht => by simp at ht) (Lpq.scan_go h).2
theorem getD_tok {l : List Tok} {j : Nat} (h : j < l.length) : l.getD j zero ∈ l := by
  rw [List.getD_eq_getElem?_getD, List.getElem?_eq_getElem h]; exact List.getElem_mem h
theorem getD_left {l m : List Tok} {j : Nat} (h : j < l.length) : (l ++ m).getD j zero = l.getD j zero := by
  rw [List.getD_eq_getElem?_getD, List.getD_eq_getElem?_getD, List.getElem?_append_left h]
theorem getD_right {l m : List Tok} {j : Nat} : (l ++ m).getD (l.length + j) zero = m.getD j zero := by
  rw [List.getD_eq_getElem?_getD, List.getD_eq_getElem?_getD, List.getElem?_append_right (by omega), Nat.add_sub_cancel_left]
theorem getD_map {m : List Tok} {j : Nat} (f : Tok → Tok) (h : j < m.length) : (m.map f).getD j zero = f (m.getD j zero) := by
  rw [List.getD_eq_getElem?_getD, List.getD_eq_getElem?_getD, List.getElem?_map, List.getElem?_eq_getElem h]; rfl
theorem scan_some {s : List UInt8} {l : List Tok} (h : Lxn.scan s = .inr l) : l ≠ [] := by
  obtain ⟨r, hr, hne, _⟩ := Lpp.go_good s _ _ _ _ _ _ (Nat.zero_le _) (Lpq.scan_go h).2
  rw [hr, List.nil_append]; exact hne
end Go.Proofs.YtjmgfhbadnechaaDoor.Lpw
