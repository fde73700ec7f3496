/- The walk of LexParts, where both sources are right and short. -/
import Derived.Test.YtjmgfhbadnechaaDoorLpw
set_option linter.unusedVariables false
namespace Go.Proofs.YtjmgfhbadnechaaDoor.Lpx
open Go.RowKit Wrd Nam Env Num Lxp Lxw Lxr Lxk Lxs Lxj Lrs Lrt Lru Apt Lrv Lrc Lrw Lsa Lsb Lsc Lsd Lse Lss Lsw Lpw

theorem shift_cells {w : World} {b o d : Nat} {l : Int} {t : Tok} (h : TokAt w b o (Lpq.shift d l t)) :
    w.cell? ⟨b, o, none⟩ = some (.int .i64 t.kind) ∧ w.cell? ⟨b, o + 1, none⟩ = some (.string t.text) ∧ w.cell? ⟨b, o + 2, none⟩ = some (.int .i64 t.num) ∧ w.cell? ⟨b, o + 3, none⟩ = some (.int .i64 (t.pos + (d : Int))) ∧ w.cell? ⟨b, o + 4, none⟩ = some (.int .i64 (t.line + l)) :=
  ⟨h.c0, h.c1, h.c2, h.c3, h.c4⟩
set_option maxHeartbeats 8000000 in
set_option maxRecDepth 100000 in
theorem walk_short (a b : ByteArray) (init : List Tok) (last : Tok) (m : List Tok) (w : World) (ha : a.size ≤ 1048576) (hb : b.size ≤ 1048576) (hE : Hid (Env w)) (h1 : Hid (Lxn.scan a.data.toList = .inr (init ++ [last]))) (h2 : Hid (Lxn.scan b.data.toList = .inr m)) (hshort : ¬ 20000 < a.size + 1 + b.size)
    (h3 : Hid (Lxn.scan (a.data.toList ++ 10 :: b.data.toList) = .inr (init ++ m.map (Lpq.shift (a.size + 1) last.line)))) :
    Calls Tryd.prog 6 #[.string a, .string b] w fun e w' => e = .returned (.bool true) ∧ Below w.heap.size w w' := by
  have hJ := join_size a b
  have hne := Lib.hid (scan_some h2.out)
  obtain ⟨S, hS⟩ : ∃ S, a ++ ⟨#[10]⟩ ++ b = S := ⟨_, rfl⟩
  have HS : Hid (Lxn.scan S.data.toList = .inr (init ++ m.map (Lpq.shift (a.size + 1) last.line))) := by
    show _ = _
    rw [← hS, join_data]; exact h3.out
  rw [hS] at hJ
  have hSs : S.size ≤ 1048576 := by omega
  clear hJ h3
  have hl1 := scan_small h1.out
  have hl2 := scan_small h2.out
  rw [List.length_append, List.length_singleton] at hl1
  have hn : (last.line : Int) ≤ a.size + 1 ∧ 1 ≤ last.line := by
    have := scan_near h1.out last (by simp)
    exact ⟨this.2.2.2, this.2.2.1⟩
  have HNE : Hid (∀ t ∈ m, Near b.size t) := scan_near h2.out
  have HLEN : Hid ((init ++ [last]).length = init.length + 1) := by show _ = _; simp
  have HLZ : Hid ((init ++ m.map (Lpq.shift (a.size + 1) last.line)).length = init.length + m.length) := by show _ = _; simp
  go_enter Tryd.func6, Tryd.ntmps6
  go_wp2_with fail
  refine (lex_ok h1.out ha _ hE.out).mono ?_
  rintro e w1 ⟨A1, cp1, rfl, hO1, hb1⟩
  obtain ⟨b1, o1, rfl, lt1, T1⟩ := own_some hO1 (by simp)
  have HT1 := Lib.hid T1
  rw [HLEN.out]
  clear hO1 T1
  go_wp2_with fail
  refine (lex_ok h2.out hb _ (hE.out.below hb1)).mono ?_
  rintro e w2 ⟨A2, cp2, rfl, hO2, hb2⟩
  obtain ⟨b2, o2, rfl, lt2, T2⟩ := own_some hO2 hne.out
  have HT2 := Lib.hid T2
  have HT1 := Lib.hid (HT1.out.below hb2 lt1)
  have lt1' : b1 < w2.heap.size := Nat.lt_of_lt_of_le lt1 hb2.size
  clear hO2 T2
  have hb2' := hb1.trans (hb2.mono hb1.size)
  go_wp2_with fail
  refine (lex_ok HS.out hSs _ (hE.out.below hb2')).mono ?_
  rintro e w3 ⟨A3, cp3, rfl, hO3, hb3⟩
  obtain ⟨b3, o3, rfl, lt3, T3⟩ := own_some hO3 (by
    intro e
    have := congrArg List.length e
    rw [HLZ.out, List.length_nil] at this
    have : 0 < m.length := List.length_pos_iff.2 hne.out
    omega)
  have HT3 := Lib.hid T3
  have HT2 := Lib.hid (HT2.out.below hb3 lt2)
  have HT1 := Lib.hid (HT1.out.below hb3 lt1')
  have lt2' : b2 < w3.heap.size := Nat.lt_of_lt_of_le lt2 hb3.size
  have lt1'' : b1 < w3.heap.size := Nat.lt_of_lt_of_le lt1' hb3.size
  rw [HLZ.out]
  clear hO3 T3
  have hb3' := hb2'.trans (hb3.mono hb2'.size)
  go_wp2_with fail
  refine (scan_one _ (hE.out.below hb3')).mono ?_
  rintro e w4 ⟨A4, cp4, rfl, hb4⟩
  have hb4' := hb3'.trans (hb4.mono hb3'.size)
  have HT3 := Lib.hid (HT3.out.below hb4 lt3)
  have HT2 := Lib.hid (HT2.out.below hb4 lt2')
  have HT1 := Lib.hid (HT1.out.below hb4 lt1'')
  have k1 : b1 < w4.heap.size := Nat.lt_of_lt_of_le lt1'' hb4.size
  have k2 : b2 < w4.heap.size := Nat.lt_of_lt_of_le lt2' hb4.size
  have k3 : b3 < w4.heap.size := Nat.lt_of_lt_of_le lt3 hb4.size
  clear hb1 hb2 hb3 hb4 hb2' hb3' lt1 lt1' lt1'' lt2 lt2' lt3 hS
  have cl : w4.cell? ⟨b1, o1 + init.length * 5 + 4, none⟩ = some (.int .i64 last.line) := by
    have := (HT1.out init.length (by simp)).c4
    simpa using this
  have n0 : (0 : Int) ≤ (init.length : Int) := by omega
  have n1 : (init.length : Int) < (init.length : Int) + 1 := by omega
  go_wp2
  go_loopw [15] (fun i wr => ∃ k q : Nat, k ≤ init.length ∧ i = .int .i64 k ∧ wr = w4.drewN q) (fun i _ => init.length - (intOf i).toNat)
  case atStart => exact ⟨0, 0, Nat.zero_le _, rfl, rfl⟩
  case round =>
    obtain ⟨k, q, hk, rfl, rfl⟩ := hrel
    clear cl
    by_cases hlt : k < init.length
    · obtain ⟨t, ht⟩ : ∃ t, init.getD k zero = t := ⟨_, rfl⟩
      have x1 := HT1.out k (by rw [HLEN.out]; omega)
      have x3 := HT3.out k (by rw [HLZ.out]; omega)
      rw [getD_left hlt, ht] at x1 x3
      obtain ⟨c0, c1, c2, c3, c4⟩ := x1
      obtain ⟨d0, d1, d2, d3, d4⟩ := x3
      clear ht
      go_wp2_with fail
      go_quiet (fail)
      go_wp2
      go_roundw
      case rel => exact ⟨k + 1, _, by omega, by go_num, by first | exact World.drewN_drewN .. | rfl⟩
      case measure => simp [intOf]; omega
    · have hbq : Below w4.heap.size w4 (w4.drewN q) := below_drewN w4 q
      go_wp2
      go_loopw [16] (fun i wr => ∃ k : Nat, k ≤ m.length ∧ i = .int .i64 k ∧ Below w4.heap.size w4 wr) (fun i _ => m.length - (intOf i).toNat)
      case atStart => exact ⟨0, Nat.zero_le _, rfl, hbq⟩
      case round =>
        obtain ⟨j, hj, rfl, hbr⟩ := hrel
        clear hlt hbq
        by_cases hlt : j < m.length
        · obtain ⟨t, ht⟩ : ∃ t, m.getD j zero = t := ⟨_, rfl⟩
          have x2 := (HT2.out.below hbr k2) j hlt
          have x3 := (HT3.out.below hbr k3) (init.length + j) (by rw [HLZ.out]; omega)
          rw [ht] at x2
          rw [getD_right, getD_map _ hlt, ht] at x3
          obtain ⟨hp0, hp1, hp2, hp3⟩ := HNE.out t (by rw [← ht]; exact getD_tok hlt)
          obtain ⟨c0, c1, c2, c3, c4⟩ := x2
          obtain ⟨d0, d1, d2, d3, d4⟩ := shift_cells x3
          rw [show t.pos + ((a.size + 1 : Nat) : Int) = t.pos + (a.size : Int) + 1 from by omega] at d3
          have q3 : b3 < wr.heap.size := Nat.lt_of_lt_of_le k3 hbr.size
          have q2 : b2 < wr.heap.size := Nat.lt_of_lt_of_le k2 hbr.size
          have hn1 := hn.1
          have hn2 := hn.2
          clear ht x3 hn
          have s0 : (0 : Int) ≤ (init.length : Int) + (j : Int) := by omega
          have s1 : (init.length : Int) + (j : Int) < (init.length : Int) + (m.length : Int) := by omega
          have s2 : ((init.length : Int) + (j : Int)).toNat = init.length + j := by omega
          have s3 : IntKind.i64.wrap ((init.length : Int) + (j : Int)) = (init.length : Int) + (j : Int) := IntWalk.i64_in _ (by omega)
          go_wp2_with fail
          go_quiet (fail)
          go_wp2
          go_roundw
          case rel => exact ⟨j + 1, by omega, by go_num, by first | exact below_drewN_up (hbr.alloc (hbr.size) _) _ | exact hbr.alloc (hbr.size) _⟩
          case measure => simp [intOf]; omega
        · go_wp2
          go_ret
          exact ⟨rfl, hb4'.trans (hbr.mono hb4'.size)⟩
theorem walk (a b : ByteArray) (w : World) (ha : a.size ≤ 1048576) (hb : b.size ≤ 1048576) (hE : Env w) :
    Calls Tryd.prog 6 #[.string a, .string b] w fun e w' => e = .returned (.bool true) ∧ Below w.heap.size w w' := by
  cases h1 : Lxn.scan a.data.toList with
  | inl x => obtain ⟨p, er⟩ := x; exact walk_a a b p er w ha hb (Lib.hid hE) (Lib.hid h1)
  | inr l =>
    cases h2 : Lxn.scan b.data.toList with
    | inl x => obtain ⟨p, er⟩ := x; exact walk_b a b l p er w ha hb (Lib.hid hE) (Lib.hid h1) (Lib.hid h2)
    | inr m =>
      by_cases hlong : 20000 < a.size + 1 + b.size
      · exact walk_long a b l m w ha hb (Lib.hid hE) (Lib.hid h1) (Lib.hid h2) hlong
      · have hne := scan_some h1
        obtain ⟨line, hl, h3⟩ := Lpq.scan_parts h1 h2 (by show a.size + 1 + b.size ≤ _; omega)
        have e : l = l.dropLast ++ [l.getLast hne] := (List.dropLast_concat_getLast hne).symm
        have hline : line = (l.getLast hne).line := by
          rw [List.getLast?_eq_some_getLast hne] at hl
          simpa using hl.symm
        rw [hline] at h3
        generalize l.getLast hne = last at e h3
        generalize l.dropLast = init at e h3
        subst e
        exact walk_short a b init last m w ha hb (Lib.hid hE) (Lib.hid h1) (Lib.hid h2) hlong (Lib.hid h3)
end Go.Proofs.YtjmgfhbadnechaaDoor.Lpx
