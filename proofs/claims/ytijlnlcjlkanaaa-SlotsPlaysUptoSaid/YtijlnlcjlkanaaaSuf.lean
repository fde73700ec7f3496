/- drowseref10.Table: New, Get, Set, Free, Serial, Count. -/
import Derived.Test.YtijlnlcjlkanaaaSue
set_option linter.unusedVariables false
namespace Go.Proofs.Ytijlnlcjlkanaaa.Suf
open Go.RowKit Rwo Sta Stb Stc Stg Ste Stl Stn Sue

/-- What a call may do beside the document's table. -/
structure RefStep (g : Nat) (vr vr' : Value) (w w' : World) : Prop where
  os : w'.os = w.os
  tape : w'.tape = w.tape
  output : w'.output = w.output
  size : w.heap.size ≤ w'.heap.size
  far : ∀ b, b < w.heap.size → b ≠ g → vr.ownBlock ≠ some b → w'.heap[b]? = w.heap[b]?
  nv : ∀ b, vr'.ownBlock = some b → vr.ownBlock = some b ∨ w.heap.size ≤ b
theorem RefStep.of_below {g : Nat} {vr : Value} {w w' : World} (h : Below w.heap.size w w') : RefStep g vr vr w w' := ⟨h.os, h.tape, h.output, h.size, fun b hb _ _ => h.block b hb, fun _ h => .inl h⟩
theorem RefStep.trans {g : Nat} {v v1 v2 : Value} {w w1 w2 : World} (h : RefStep g v v1 w w1) (k : RefStep g v1 v2 w1 w2) : RefStep g v v2 w w2 where
  os := k.os.trans h.os
  tape := k.tape.trans h.tape
  output := k.output.trans h.output
  size := Nat.le_trans h.size k.size
  far b hb hg h1 := by
    rw [k.far b (Nat.lt_of_lt_of_le hb h.size) hg (fun e => (h.nv b e).elim h1 (fun x => absurd hb (by omega)))]
    exact h.far b hb hg h1
  nv b hb := by
    rcases k.nv b hb with h1 | h1
    · exact h.nv b h1
    · exact .inr (Nat.le_trans h.size h1)
theorem RefStep.below {g : Nat} {v v' : Value} {w w' : World} (h : RefStep g v v' w w') {B : Nat} (hg : B ≤ g) (hw : B ≤ w.heap.size) (h1 : ∀ b, v.ownBlock = some b → B ≤ b) : Below B w w' :=
  ⟨h.os, h.tape, h.output, h.size, fun b hb => h.far b (by omega) (by omega) (fun e => absurd (h1 b e) (by omega))⟩
theorem set_th {R : List Th} {i : Nat} {y : Th} : (R.set i y).length = R.length := List.length_set ..
theorem store_x {g b c n i : Nat} {R : List Th} {most : Nat} {x : Int} {w : World} (h : RefAt g (.slice (some ⟨b, 0, none⟩) n c) R most w) (hi : i < R.length) :
    RefAt g (.slice (some ⟨b, 0, none⟩) n c) (R.set i ⟨(R.getD i th0).h, x, (R.getD i th0).gone⟩) most (w.setCell ⟨b, i * 4 + 2, none⟩ (.int .i64 x)) ∧ RefStep g (.slice (some ⟨b, 0, none⟩) n c) (.slice (some ⟨b, 0, none⟩) n c) w (w.setCell ⟨b, i * 4 + 2, none⟩ (.int .i64 x)) := by
  have hb := (Below.refl 0 w).setCell (p := ⟨b, i * 4 + 2, none⟩) (Nat.zero_le _) (.int .i64 x)
  have hbg := (h.all.lt (k := b) rfl).1
  refine ⟨⟨?_, ?_, by have := hb.size; have := h.lt; omega⟩, ⟨hb.os, hb.tape, hb.output, hb.size, fun b' h' _ hn => ?_, fun _ e => .inl e⟩⟩
  · rw [sc_other (by omega)]; exact h.blk
  · exact h.all.store i 2 (.int .i64 x) _ hi (by show 2 < 4; omega) rfl
  · exact sc_other (fun e => hn (by rw [e]; rfl))
theorem store_gone {g b c n i : Nat} {R : List Th} {most : Nat} {w : World} (h : RefAt g (.slice (some ⟨b, 0, none⟩) n c) R most w) (hi : i < R.length) :
    RefAt g (.slice (some ⟨b, 0, none⟩) n c) (R.set i ⟨(R.getD i th0).h, (R.getD i th0).x, true⟩) most (w.setCell ⟨b, i * 4 + 3, none⟩ (.bool true)) ∧ RefStep g (.slice (some ⟨b, 0, none⟩) n c) (.slice (some ⟨b, 0, none⟩) n c) w (w.setCell ⟨b, i * 4 + 3, none⟩ (.bool true)) := by
  have hb := (Below.refl 0 w).setCell (p := ⟨b, i * 4 + 3, none⟩) (Nat.zero_le _) (.bool true)
  have hbg := (h.all.lt (k := b) rfl).1
  refine ⟨⟨?_, ?_, by have := hb.size; have := h.lt; omega⟩, ⟨hb.os, hb.tape, hb.output, hb.size, fun b' h' _ hn => ?_, fun _ e => .inl e⟩⟩
  · rw [sc_other (by omega)]; exact h.blk
  · exact h.all.store i 3 (.bool true) _ hi (by show 3 < 4; omega) rfl
  · exact sc_other (fun e => hn (by rw [e]; rfl))
section
variable (g : Nat) (vr : Value) (R : List Th) (most a b : Nat)
set_option maxHeartbeats 2000000 in
set_option maxRecDepth 100000 in
theorem rget_yes (i : Nat) (x : Int) (w : World) (h : Hid (RefAt g vr R most w)) (hn : R.length ≤ 1000000) (hf : Hid (findR R ⟨a, b⟩ = some i)) (hx : Hid ((R.getD i th0).x = x)) :
    Calls Try.prog 42 #[.pointer (some ⟨g, 0, none⟩), .agg #[.int .u32 a, .int .u32 b]] w fun e w' => e = .returned (.tuple #[.int .i64 x, .bool true]) ∧ Below w.heap.size w w' := by
  have C := Lib.hid (fun W (hW : Below w.heap.size w W) => find_yes g vr R most a b i W (Lib.hid (h.out.below hW)) hn hf)
  have hi := (find_some hf.out).1
  obtain ⟨br, cr, _, rfl, _, _, hbr, _⟩ := Own.some h.out.all (by intro e; rw [e, List.length_nil] at hi; omega)
  go_enter Try.func42, Try.ntmps42
  go_wp2_with fail
  refine (C.out _ (by first | exact Below.refl _ _ | exact (Below.refl _ _).alloc (Nat.le_refl _) _)).mono ?_
  rintro e w1 ⟨rfl, hb1⟩
  have hbw : Below w.heap.size w w1 := by first | exact hb1 | exact ((Below.refl _ w).alloc (Nat.le_refl _) _).trans (hb1.mono (by simp))
  have HR := Lib.hid (h.out.below hbw)
  obtain ⟨⟨c0, c1⟩, _⟩ := HR.out.cells
  obtain ⟨d0, d1, d2, d3⟩ := th_cells HR.out.all i hi rfl
  rw [hx.out] at d2
  clear d0 d1 d3
  go_wp2
  go_ret2
  exact ⟨rfl, hbw⟩
set_option maxHeartbeats 2000000 in
set_option maxRecDepth 100000 in
theorem rget_no (w : World) (h : Hid (RefAt g vr R most w)) (hn : R.length ≤ 1000000) (hf : Hid (findR R ⟨a, b⟩ = none)) :
    Calls Try.prog 42 #[.pointer (some ⟨g, 0, none⟩), .agg #[.int .u32 a, .int .u32 b]] w fun e w' => e = .returned (.tuple #[.int .i64 0, .bool false]) ∧ Below w.heap.size w w' := by
  have C := Lib.hid (fun W (hW : Below w.heap.size w W) => find_no g vr R most a b W (Lib.hid (h.out.below hW)) hn hf)
  go_enter Try.func42, Try.ntmps42
  go_wp2_with fail
  refine (C.out _ (by first | exact Below.refl _ _ | exact (Below.refl _ _).alloc (Nat.le_refl _) _)).mono ?_
  rintro e w1 ⟨rfl, hb1⟩
  go_wp2
  go_ret2
  exact ⟨rfl, by first | exact hb1 | exact ((Below.refl _ w).alloc (Nat.le_refl _) _).trans (hb1.mono (by simp))⟩
set_option maxHeartbeats 2000000 in
set_option maxRecDepth 100000 in
theorem rserial_yes (i : Nat) (w : World) (h : Hid (RefAt g vr R most w)) (hn : R.length ≤ 1000000) (hf : Hid (findR R ⟨a, b⟩ = some i)) :
    Calls Try.prog 44 #[.pointer (some ⟨g, 0, none⟩), .agg #[.int .u32 a, .int .u32 b]] w fun e w' => e = .returned (.tuple #[.int .i64 ((i : Int) + 1), .bool true]) ∧ Below w.heap.size w w' := by
  have C := Lib.hid (fun W (hW : Below w.heap.size w W) => find_yes g vr R most a b i W (Lib.hid (h.out.below hW)) hn hf)
  have hi := (find_some hf.out).1
  go_enter Try.func44, Try.ntmps44
  go_wp2_with fail
  refine (C.out _ (by first | exact Below.refl _ _ | exact (Below.refl _ _).alloc (Nat.le_refl _) _)).mono ?_
  rintro e w1 ⟨rfl, hb1⟩
  go_wp2
  go_ret2
  exact ⟨rfl, by first | exact hb1 | exact ((Below.refl _ w).alloc (Nat.le_refl _) _).trans (hb1.mono (by simp))⟩
set_option maxHeartbeats 2000000 in
set_option maxRecDepth 100000 in
theorem rserial_no (w : World) (h : Hid (RefAt g vr R most w)) (hn : R.length ≤ 1000000) (hf : Hid (findR R ⟨a, b⟩ = none)) :
    Calls Try.prog 44 #[.pointer (some ⟨g, 0, none⟩), .agg #[.int .u32 a, .int .u32 b]] w fun e w' => e = .returned (.tuple #[.int .i64 0, .bool false]) ∧ Below w.heap.size w w' := by
  have C := Lib.hid (fun W (hW : Below w.heap.size w W) => find_no g vr R most a b W (Lib.hid (h.out.below hW)) hn hf)
  go_enter Try.func44, Try.ntmps44
  go_wp2_with fail
  refine (C.out _ (by first | exact Below.refl _ _ | exact (Below.refl _ _).alloc (Nat.le_refl _) _)).mono ?_
  rintro e w1 ⟨rfl, hb1⟩
  go_wp2
  go_ret2
  exact ⟨rfl, by first | exact hb1 | exact ((Below.refl _ w).alloc (Nat.le_refl _) _).trans (hb1.mono (by simp))⟩
set_option maxHeartbeats 2000000 in
set_option maxRecDepth 100000 in
theorem rset_yes (i : Nat) (x : Int) (w : World) (h : Hid (RefAt g vr R most w)) (hn : R.length ≤ 1000000) (hf : Hid (findR R ⟨a, b⟩ = some i)) :
    Calls Try.prog 43 #[.pointer (some ⟨g, 0, none⟩), .agg #[.int .u32 a, .int .u32 b], .int .i64 x] w fun e w' => e = .returned (.bool true) ∧ RefAt g vr (R.set i ⟨(R.getD i th0).h, x, (R.getD i th0).gone⟩) most w' ∧ RefStep g vr vr w w' := by
  have C := Lib.hid (fun W (hW : Below w.heap.size w W) => find_yes g vr R most a b i W (Lib.hid (h.out.below hW)) hn hf)
  have hi := (find_some hf.out).1
  obtain ⟨br, cr, _, rfl, _, _, hbr, _⟩ := Own.some h.out.all (by intro e; rw [e, List.length_nil] at hi; omega)
  go_enter Try.func43, Try.ntmps43
  go_wp2_with fail
  refine (C.out _ (by first | exact Below.refl _ _ | exact (Below.refl _ _).alloc (Nat.le_refl _) _)).mono ?_
  rintro e w1 ⟨rfl, hb1⟩
  have hbw : Below w.heap.size w w1 := by first | exact hb1 | exact ((Below.refl _ w).alloc (Nat.le_refl _) _).trans (hb1.mono (by simp))
  have HR := Lib.hid (h.out.below hbw)
  obtain ⟨⟨c0, c1⟩, _⟩ := HR.out.cells
  obtain ⟨d0, d1, d2, d3⟩ := th_cells HR.out.all i hi rfl
  have f2 := HR.out.all.frozen (i * 4 + 2)
  have HS := Lib.hid (store_x (x := x) HR.out hi)
  have HB := Lib.hid (RefStep.of_below (g := g) (vr := .slice (some ⟨br, 0, none⟩) R.length cr) hbw)
  clear d0 d1 d3
  go_wp2
  go_ret
  exact ⟨rfl, HS.out.1, HB.out.trans HS.out.2⟩
set_option maxHeartbeats 2000000 in
set_option maxRecDepth 100000 in
theorem rset_no (x : Int) (w : World) (h : Hid (RefAt g vr R most w)) (hn : R.length ≤ 1000000) (hf : Hid (findR R ⟨a, b⟩ = none)) :
    Calls Try.prog 43 #[.pointer (some ⟨g, 0, none⟩), .agg #[.int .u32 a, .int .u32 b], .int .i64 x] w fun e w' => e = .returned (.bool false) ∧ Below w.heap.size w w' := by
  have C := Lib.hid (fun W (hW : Below w.heap.size w W) => find_no g vr R most a b W (Lib.hid (h.out.below hW)) hn hf)
  go_enter Try.func43, Try.ntmps43
  go_wp2_with fail
  refine (C.out _ (by first | exact Below.refl _ _ | exact (Below.refl _ _).alloc (Nat.le_refl _) _)).mono ?_
  rintro e w1 ⟨rfl, hb1⟩
  go_wp2
  go_ret
  exact ⟨rfl, by first | exact hb1 | exact ((Below.refl _ w).alloc (Nat.le_refl _) _).trans (hb1.mono (by simp))⟩
set_option maxHeartbeats 2000000 in
set_option maxRecDepth 100000 in
theorem rfree_yes (i : Nat) (w : World) (h : Hid (RefAt g vr R most w)) (hn : R.length ≤ 1000000) (hf : Hid (findR R ⟨a, b⟩ = some i)) :
    Calls Try.prog 41 #[.pointer (some ⟨g, 0, none⟩), .agg #[.int .u32 a, .int .u32 b]] w fun e w' => e = .returned (.bool true) ∧ RefAt g vr (R.set i ⟨(R.getD i th0).h, (R.getD i th0).x, true⟩) most w' ∧ RefStep g vr vr w w' := by
  have C := Lib.hid (fun W (hW : Below w.heap.size w W) => find_yes g vr R most a b i W (Lib.hid (h.out.below hW)) hn hf)
  have hi := (find_some hf.out).1
  obtain ⟨br, cr, _, rfl, _, _, hbr, _⟩ := Own.some h.out.all (by intro e; rw [e, List.length_nil] at hi; omega)
  go_enter Try.func41, Try.ntmps41
  go_wp2_with fail
  refine (C.out _ (by first | exact Below.refl _ _ | exact (Below.refl _ _).alloc (Nat.le_refl _) _)).mono ?_
  rintro e w1 ⟨rfl, hb1⟩
  have hbw : Below w.heap.size w w1 := by first | exact hb1 | exact ((Below.refl _ w).alloc (Nat.le_refl _) _).trans (hb1.mono (by simp))
  have HR := Lib.hid (h.out.below hbw)
  obtain ⟨⟨c0, c1⟩, _⟩ := HR.out.cells
  obtain ⟨d0, d1, d2, d3⟩ := th_cells HR.out.all i hi rfl
  have f2 := HR.out.all.frozen (i * 4 + 3)
  have HS := Lib.hid (store_gone HR.out hi)
  have HB := Lib.hid (RefStep.of_below (g := g) (vr := .slice (some ⟨br, 0, none⟩) R.length cr) hbw)
  clear d0 d1 d2
  go_wp2
  go_ret
  exact ⟨rfl, HS.out.1, HB.out.trans HS.out.2⟩
set_option maxHeartbeats 2000000 in
set_option maxRecDepth 100000 in
theorem rfree_no (w : World) (h : Hid (RefAt g vr R most w)) (hn : R.length ≤ 1000000) (hf : Hid (findR R ⟨a, b⟩ = none)) :
    Calls Try.prog 41 #[.pointer (some ⟨g, 0, none⟩), .agg #[.int .u32 a, .int .u32 b]] w fun e w' => e = .returned (.bool false) ∧ Below w.heap.size w w' := by
  have C := Lib.hid (fun W (hW : Below w.heap.size w W) => find_no g vr R most a b W (Lib.hid (h.out.below hW)) hn hf)
  go_enter Try.func41, Try.ntmps41
  go_wp2_with fail
  refine (C.out _ (by first | exact Below.refl _ _ | exact (Below.refl _ _).alloc (Nat.le_refl _) _)).mono ?_
  rintro e w1 ⟨rfl, hb1⟩
  go_wp2
  go_ret
  exact ⟨rfl, by first | exact hb1 | exact ((Below.refl _ w).alloc (Nat.le_refl _) _).trans (hb1.mono (by simp))⟩
end
/-- Does it live? -/
def here (s : Th) : Bool := !s.gone
set_option maxHeartbeats 2000000 in
set_option maxRecDepth 100000 in
theorem rcount_any (g : Nat) (vr : Value) (R : List Th) (most : Nat) (w : World) (h : Hid (RefAt g vr R most w)) (hn : R.length ≤ 1000000) :
    Calls Try.prog 27 #[.pointer (some ⟨g, 0, none⟩)] w fun e w' => e = .returned (.int .i64 (R.countP here : Nat)) ∧ w = w' := by
  obtain ⟨⟨c0, c1⟩, _⟩ := h.out.cells
  obtain ⟨A1, k1, rfl⟩ := Own.shape h.out.all
  go_enter Try.func27, Try.ntmps27
  go_wp2
  go_loopw [3, 4] (fun c u wr => ∃ k m : Nat, k ≤ R.length ∧ u = .int .i64 k ∧ c = .int .i64 m ∧ Hid ((R.take k).countP here = m) ∧ m ≤ k ∧ w = wr) (fun _ u _ => R.length - (intOf u).toNat)
  case atStart => exact ⟨0, 0, Nat.zero_le _, rfl, rfl, rfl, Nat.le_refl _, rfl⟩
  case round =>
    obtain ⟨k, m, hk, rfl, rfl, HM, hm, rfl⟩ := hrel
    by_cases hkl : k < R.length
    · obtain ⟨br, cr, _, hv, _, _, hbr, _⟩ := Own.some h.out.all (by intro e; rw [e, List.length_nil] at hkl; omega)
      simp only [Value.slice.injEq] at hv
      obtain ⟨rfl, _, rfl⟩ := hv
      obtain ⟨s, hsl⟩ : ∃ s, R.getD k th0 = s := ⟨_, rfl⟩
      obtain ⟨_, _, _, d3⟩ := th_cells h.out.all k hkl hsl
      have hnx : (R.take (k + 1)).countP here = m + if here s then 1 else 0 := by
        rw [List.take_succ_eq_append_getElem hkl, List.countP_append, HM.out, ← hsl, List.getD_eq_getElem?_getD, List.getElem?_eq_getElem hkl]
        simp
      have HNX := Lib.hid hnx
      clear hnx hsl
      cases hg : s.gone with
      | true =>
        have HN2 : Hid ((R.take (k + 1)).countP here = m) := by have := HNX.out; rw [show here s = false from by unfold here; rw [hg]; rfl] at this; exact this
        rw [hg] at d3
        clear hg HNX
        go_wp2
        go_roundw
        case rel => exact ⟨k + 1, m, by omega, by go_num, rfl, HN2.out, by omega, trivial⟩
        case measure => simp [intOf]; omega
      | false =>
        have HN2 : Hid ((R.take (k + 1)).countP here = m + 1) := by have := HNX.out; rw [show here s = true from by unfold here; rw [hg]; rfl] at this; exact this
        rw [hg] at d3
        clear hg HNX
        go_wp2
        go_roundw
        case rel => exact ⟨k + 1, m + 1, by omega, by go_num, by go_num, HN2.out, by omega, trivial⟩
        case measure => simp [intOf]; omega
    · have HE : Hid (R.countP here = m) := by have := HM.out; rw [List.take_of_length_le (by omega)] at this; exact this
      clear HM
      go_wp2
      go_ret
      exact ⟨by rw [HE.out]; rfl, rfl⟩
theorem ref_new (w : World) (most : Nat) : RefAt w.heap.size (.slice none 0 0) [] most (w.alloc (.cells #[.slice none 0 0, .int .i64 most] 69)) := ⟨heap_alloc_new w _, Own.nil _ _, by simp⟩
set_option maxHeartbeats 2000000 in
set_option maxRecDepth 100000 in
theorem rnew_ok (most : Nat) (w : World) (h1 : 1 ≤ most) (h2 : most ≤ 500) :
    Calls Try.prog 24 #[.int .i64 most] w fun e w' => e = .returned (.tuple #[.pointer (some ⟨w.heap.size, 0, none⟩), .bool true]) ∧ RefAt w.heap.size (.slice none 0 0) [] most w' ∧ Below w.heap.size w w' := by
  have HT := Lib.hid (ref_new w most)
  have a1 : (1 : Int) ≤ (most : Int) := by omega
  have a2 : (most : Int) ≤ 500 := by omega
  go_enter Try.func24, Try.ntmps24
  go_wp2
  go_ret2
  exact ⟨rfl, HT.out, (Below.refl _ w).alloc (Nat.le_refl _) _⟩
set_option maxHeartbeats 2000000 in
set_option maxRecDepth 100000 in
theorem rnew_no (most : Int) (w : World) (h1 : most < 1 ∨ 500 < most) :
    Calls Try.prog 24 #[.int .i64 most] w fun e w' => (∃ p, e = .returned (.tuple #[.pointer p, .bool false])) ∧ Below w.heap.size w w' := by
  rcases h1 with h1 | h1
  · have a1 : decide ((1 : Int) ≤ most) = false := decide_eq_false (by omega)
    go_enter Try.func24, Try.ntmps24
    go_wp2
    go_ret2
    exact ⟨⟨_, rfl⟩, (Below.refl _ w).alloc (Nat.le_refl _) _⟩
  · have a1 : (1 : Int) ≤ most := by omega
    have a2 : decide (most ≤ (500 : Int)) = false := decide_eq_false (by omega)
    go_enter Try.func24, Try.ntmps24
    go_wp2
    go_ret2
    exact ⟨⟨_, rfl⟩, (Below.refl _ w).alloc (Nat.le_refl _) _⟩
end Go.Proofs.Ytijlnlcjlkanaaa.Suf
