/- The walk of WordsKinds: for every text of at most 2^45 bytes it answers true, and nothing that was there has changed. -/
import Derived.Test.YthcemgonabjgfaaDoorNam
import Derived.Laws.OwnMore
import Derived.OwnWalk
set_option linter.unusedVariables false
namespace Go.Proofs.YthcemgonabjgfaaDoor.Wkw
open Go.RowKit Wrd Nam

theorem infoStr : (Tryd.prog.info? 9).map (fun i => (i.zero, i.size, i.bytes)) = some (some (.string ⟨#[]⟩), 1, 16) := by kernel_rfl
/-- v is a []string of the call's own with n elements. -/
def OwnS (B : Nat) (v : Value) (n : Nat) (w : World) : Prop := ∃ xs, w.ownsRow B 9 1 v n xs
theorem OwnS.store {B g n cap : Nat} {w : World} (h : OwnS B (.slice (some ⟨g, 0, none⟩) n cap) n w) (j : Nat) (u : Value) : OwnS B (.slice (some ⟨g, 0, none⟩) n cap) n (w.setCell ⟨g, j, none⟩ u) := by
  obtain ⟨xs, hx⟩ := h
  exact ⟨_, (hx.stored j u).1⟩
theorem OwnS.cell {B g n cap : Nat} {w : World} (h : OwnS B (.slice (some ⟨g, 0, none⟩) n cap) n w) (j : Nat) (hj : j < n) : ∃ u, w.cell? ⟨g, j, none⟩ = some u := by
  obtain ⟨xs, hx⟩ := h
  rw [hx.cellAt j (by omega)]
  have : j < xs.length := by rw [hx.1]; omega
  exact ⟨xs[j], List.getElem?_eq_getElem this⟩
theorem OwnS.frozen {B g n cap : Nat} {w : World} (h : OwnS B (.slice (some ⟨g, 0, none⟩) n cap) n w) (j : Nat) : w.frozen? ⟨g, j, none⟩ = false := by
  obtain ⟨xs, hx⟩ := h
  exact hx.frozenAt j
theorem own_words (w : World) : OwnS w.heap.size (.slice (some ⟨w.heap.size, 0, none⟩) 28 28) 28 (w.alloc (.cells wordCells 9)) :=
  ⟨_, World.ownsRow_lit w wordCells 28 (Nat.le_refl _) (by unfold maxLen; omega) rfl⟩

set_option maxHeartbeats 4000000 in
set_option maxRecDepth 100000 in
theorem walk (s : ByteArray) (w : World) (hs : s.size ≤ 35184372088832) :
    Calls Tryd.prog 3 #[.string s] w fun e w' => e = .returned (.bool true) ∧ Below w.heap.size w w' := by
  obtain ⟨i0, hi, hz0, hz1, hz2⟩ := info_parts infoStr
  go_enter Tryd.func3, Tryd.ntmps3
  go_wp2_with fail
  refine (words_any w).mono ?_
  rintro e w1 ⟨rfl, rfl⟩
  have HO := Lib.hid (own_words w)
  go_wp2
  go_loopw [4] (fun i wr => ∃ k : Nat, k ≤ 28 ∧ i = .int .i64 k ∧ Hid (OwnS w.heap.size (.slice (some ⟨w.heap.size, 0, none⟩) 28 28) 28 wr) ∧ Below w.heap.size w wr) (fun i _ => 28 - (intOf i).toNat)
  case atStart => exact ⟨0, by omega, rfl, HO, (Below.refl _ w).alloc (Nat.le_refl _) _⟩
  case round =>
    obtain ⟨k, hk, rfl, HO2, hb⟩ := hrel
    clear HO
    by_cases hlt : k < 28
    · obtain ⟨u, hcell⟩ := HO2.out.cell k hlt
      have hfro := HO2.out.frozen k
      go_wp2
      go_roundw
      case rel => exact ⟨k + 1, by omega, by go_num, Lib.hid (HO2.out.store k _), hb.setCell (p := ⟨w.heap.size, k, none⟩) (Nat.le_refl _) _⟩
      case measure => simp [intOf]; omega
    · obtain ⟨xs, hx⟩ := HO2.out
      have hsz := hb.size
      go_wp2_with (first | (at_builtin; refine wpList_append_own _ rfl _ _ 22 rfl w.heap.size 9 i0 (.string ⟨#[]⟩) 1 16 Tryd.underlying22 hi hz0 hz1 hz2 rfl (by decide) _ _ _ rfl (hx.alloc _) ⟨wr.heap.size, 0, none⟩ 1 1 [.string ⟨#[109, 111, 114, 101]⟩] rfl rfl ?c1 ?c2 ?c3 ?c4 ?c5 ?_) | fail)
      case c1 =>
        intro j u hj
        match j, hj with
        | 0, hj => simp at hj; subst hj; simp [Addr.add]
      case c2 => intro u hu; simp at hu; subst hu; rfl
      case c3 => unfold maxLen; omega
      case c4 => omega
      case c5 => simp; omega
      intro v2 w2 hown2 hgrow _
      have hb2 : Below w.heap.size w w2 := (hb.alloc hsz _).grown hgrow (by simp; omega) (fun j hj => by simp [Value.ownBlock] at hj; omega)
      have hsz2 := hb2.size
      obtain ⟨A2, c2, rfl⟩ : ∃ A c, v2 = .slice A 29 c := by
        rcases hown2.2 with ⟨hv, h0⟩ | ⟨g, cap, cur, hv, _⟩
        · omega
        · exact ⟨_, _, hv⟩
      clear hown2 hgrow hx hsz hk hlt
      go_wp2_with fail
      refine (words_any w2).mono ?_
      rintro e w3 ⟨rfl, rfl⟩
      go_wp2_with fail
      refine (rwords_any _).mono ?_
      rintro e w3 ⟨rfl, rfl⟩
      have HA : Hid (∀ j, j < 28 → ((w2.alloc (.cells wordCells 9)).alloc (.cells wordCells 9)).cell? ⟨w2.heap.size, j, none⟩ = some (.string (Plo.words.getD j ByteArray.empty))) := fun j hj => by
        rw [World.cell?_alloc_past _ _ _ (by simp)]
        exact strs_new w2 Plo.words 9 j (by rw [Plo.words_length]; exact hj)
      have HB : Hid (∀ j, j < 28 → ((w2.alloc (.cells wordCells 9)).alloc (.cells wordCells 9)).cell? ⟨w2.heap.size + 1, j, none⟩ = some (.string (Plo.words.getD j ByteArray.empty))) := fun j hj => by
        have e : (w2.alloc (.cells wordCells 9)).heap.size = w2.heap.size + 1 := by simp
        rw [← e]
        exact strs_new (w2.alloc (.cells wordCells 9)) Plo.words 9 j (by rw [Plo.words_length]; exact hj)
      have hb3 : Below w.heap.size w ((w2.alloc (.cells wordCells 9)).alloc (.cells wordCells 9)) := (hb2.alloc hsz2 _).alloc (by simp; omega) _
      obtain ⟨W3, hW3⟩ : ∃ W3, W3 = (w2.alloc (.cells wordCells 9)).alloc (.cells wordCells 9) := ⟨_, rfl⟩
      have hs3 : W3.heap.size = w2.heap.size + 1 + 1 := by rw [hW3]; simp
      rw [← hW3] at HA HB hb3 ⊢
      clear hW3
      have HS3 := Lib.hid hs3
      clear hs3 hb2 hb
      go_wp2
      go_loopw [7] (fun i wr => ∃ k q : Nat, k ≤ 28 ∧ i = .int .i64 k ∧ wr = W3.drewN q) (fun i _ => 28 - (intOf i).toNat)
      case atStart => exact ⟨0, 0, by omega, rfl, rfl⟩
      case round =>
        obtain ⟨k, q, hk, rfl, rfl⟩ := hrel
        by_cases hlt : k < 28
        · have ca := HA.out k hlt
          have cb := HB.out k hlt
          go_wp2
          go_quiet (fail)
          go_wp2
          go_roundw
          case rel => exact ⟨k + 1, _, by omega, by go_num, rfl⟩
          case measure => simp [intOf]; omega
        · clear HA HB
          have hb4 : Below w.heap.size w (W3.drewN q) := hb3.trans ((Wrd.below_drewN W3 q).mono hb3.size)
          obtain ⟨W4, hW4⟩ : ∃ W4, W4 = W3.drewN q := ⟨_, rfl⟩
          rw [← hW4] at hb4 ⊢
          clear hW4 hb3 HS3 hsz2
          go_wp2_with fail
          refine (name_any s W4 hs).mono ?_
          rintro e w5 ⟨rfl, hb5⟩
          go_wp2_with fail
          refine (word_any s w5).mono ?_
          rintro e w6 ⟨rfl, hb6⟩
          go_wp2_with fail
          refine (rname_any s w6).mono ?_
          rintro e w7 ⟨rfl, hb7⟩
          go_wp2_with fail
          refine (rword_any s w7).mono ?_
          rintro e w8 ⟨rfl, hb8⟩
          go_wp2
          go_ret
          exact ⟨rfl, (((hb4.trans (hb5.mono hb4.size)).trans (hb6.mono (by have := hb4.size; have := hb5.size; omega))).trans (hb7.mono (by have := hb4.size; have := hb5.size; have := hb6.size; omega))).trans (hb8.mono (by have := hb4.size; have := hb5.size; have := hb6.size; have := hb7.size; omega))⟩
end Go.Proofs.YthcemgonabjgfaaDoor.Wkw
