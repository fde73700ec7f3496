/- (*lex.scanner).ends, where the line has a token. -/
import Derived.Test.YtjmgfhbadnechaaDoorLsb
import Derived.Deep.RegionWith
set_option linter.unusedVariables false
namespace Go.Proofs.YtjmgfhbadnechaaDoor.Lsc
open Go.RowKit Wrd Nam Lxp Lxw Lxr Lxk Lxs Lxj Lrs Lrt Lru Apt Lrv Lrc Lsa Lsb

/-- A list with a last one, in memory. -/
theorem own_last {B : Nat} {v : Value} {init : List Tok} {last : Tok} {w : World} (h : OwnT B v (init ++ [last]) w) :
    ∃ b o c, v = .slice (some ⟨b, o, none⟩) (init.length + 1) c ∧ b < w.heap.size ∧ TokAt w b (o + init.length * 5) last := by
  rcases OwnT.lies h with ⟨h0, _⟩ | ⟨b, o, c, rfl, h1, h2⟩
  · simp at h0
  · refine ⟨b, o, c, by simp, h1, ?_⟩
    have := h2 init.length (by simp)
    simpa using this
theorem lastOf_snoc (init : List Tok) (last : Tok) : lastOf (init ++ [last]) = last := by
  unfold lastOf; simp
set_option maxHeartbeats 4000000 in
set_option maxRecDepth 100000 in
theorem ends_fresh (g : Nat) (src : ByteArray) (p : Nat) (line : Int) (v : Value) (init : List Tok) (last : Tok) (w : World) (h : Hid (Sc g src p line v (init ++ [last]) true w)) (hp : p ≤ 900000) (hl : init.length ≤ 900000) :
    Calls Tryd.prog 26 #[.pointer (some ⟨g, 0, none⟩)] w (Ended g src p line (Lxn.close p line (init ++ [last]) last) w) := by
  obtain ⟨⟨c0, c1, c2, c3, c4⟩, f0, f1, f2, f3, f4⟩ := h.out.blk.cells
  obtain ⟨b, o, c, rfl, hbl, hat⟩ := own_last h.out.own
  obtain ⟨d0, d1, d2, d3, d4⟩ := hat
  have hlt := h.out.lt
  obtain ⟨r, hr⟩ : ∃ r, Lxn.calls last = r := ⟨_, rfl⟩
  have RC : Hid (∀ w, Calls Tryd.prog 50 #[.agg #[.int .i64 last.kind, .string last.text, .int .i64 last.num, .int .i64 last.pos, .int .i64 last.line]] w fun e w' => e = .returned (.bool r) ∧ Below w.heap.size w w') := fun w => by
    have := calls_any last w
    rw [hr] at this
    exact this
  have HR := Lib.hid hr
  clear hr
  have n0 : (0 : Int) ≤ (init.length : Int) := by omega
  have n1 : (init.length : Int) < (init.length : Int) + 1 := by omega
  have n2 : IntKind.i64.wrap (init.length : Int) = (init.length : Int) := IntWalk.i64_in _ (by omega)
  have n3 : IntKind.i64.wrap ((init.length : Int) + 1 - 1) = (init.length : Int) := by rw [Int.add_sub_cancel]; exact n2
  have n4 : (init.length : Int).toNat = init.length := by omega
  have n5 : ((init.length : Int) + 1 - 1).toNat = init.length := by omega
  cases r with
  | true =>
    have HCL := Lib.hid (close_yes (p := p) (line := line) (out := init ++ [last]) HR.out)
    go_enter Tryd.func26, Tryd.ntmps26
    go_wp2_with fail
    go_region_with (go_at_call 50; refine (RC.out _).mono ?_; rintro e w1 ⟨rfl, hb1⟩)
    all_goals
      have hbw : Below w.heap.size w w1 := by first | exact hb1 | exact (below_drewN w _).trans hb1
      have HS := Lib.hid (h.out.below hbw)
      clear c0 c1 c2 c3 c4 f0 f1 f2 f3 f4 d0 d1 d2 d3 d4 n2 n3 n4 n5
      go_wp2_with fail
      refine (add_any g src p line _ (init ++ [last]) true 6 ⟨#[10]⟩ 0 0 _ HS (by omega) (by simp; omega)).mono ?_
      rintro e w2 ⟨rfl, ⟨v2, hS2⟩, hb2⟩
      obtain ⟨⟨c0, c1, c2, c3, c4⟩, f0, f1, f2, f3, f4⟩ := hS2.blk.cells
      have HS2 := Lib.hid hS2
      clear hS2
      go_wp2
      go_end0
      refine ⟨rfl, ⟨v2, ?_⟩, ((hbw.mono (by omega)).trans hb2).setCell (p := ⟨g, 4, none⟩) (Nat.le_refl _) _⟩
      rw [HCL.out]
      exact ⟨heap_setCell_same _ g 4 _ _ _ HS2.out.blk, OwnT.other HS2.out.own fun b hb => by rw [heap_setCell_other _ _ _ _ (by simp; omega)], by have := HS2.out.lt; simp; omega⟩
  | false =>
    have HCL := Lib.hid (close_no (p := p) (line := line) (out := init ++ [last]) HR.out)
    go_enter Tryd.func26, Tryd.ntmps26
    go_wp2_with fail
    go_region_with (go_at_call 50; refine (RC.out _).mono ?_; rintro e w1 ⟨rfl, hb1⟩)
    all_goals
      have hbw : Below w.heap.size w w1 := by first | exact hb1 | exact (below_drewN w _).trans hb1
      have HS := Lib.hid (h.out.below hbw)
      clear c0 c1 c2 c3 c4 f0 f1 f2 f3 f4 d0 d1 d2 d3 d4 n2 n3 n4 n5
      obtain ⟨⟨c0, c1, c2, c3, c4⟩, f0, f1, f2, f3, f4⟩ := HS.out.blk.cells
      go_wp2
      go_end0
      refine ⟨rfl, ⟨.slice (some ⟨b, o, none⟩) (init.length + 1) c, ?_⟩, (hbw.mono (Nat.le_of_lt hlt)).setCell (p := ⟨g, 4, none⟩) (Nat.le_refl _) _⟩
      rw [HCL.out]
      exact ⟨heap_setCell_same _ g 4 _ _ _ HS.out.blk, OwnT.other HS.out.own fun b hb => by rw [heap_setCell_other _ _ _ _ (by simp; omega)], by have := HS.out.lt; simp; omega⟩
end Go.Proofs.YtjmgfhbadnechaaDoor.Lsc
