/- Alike of one tree, twice in memory: true. -/
import Derived.Test.YtgodeffkboihlaaGreatDoorTbb
import Derived.Test.YtgodeffkboihlaaGreatDoorTsb
import Derived.StillTailTactics
set_option linter.unusedVariables false
namespace Go.Proofs.YtgodeffkboihlaaGreatDoor.Tal
open Go.RowKit Tra Trb Trf Trg Tcn Trh Tsa Tsb

def behind : ByteArray := ⟨#[98, 101, 104, 105, 110, 100]⟩
def AtM (m : Bool) (w : World) (t : Tr) (b o : Nat) : Prop :=
  b < w.heap.size ∧ ∃ a c, (∀ i, i < 8 → w.cell? ⟨b, o + i, none⟩ = (t.d.row a t.kids.length c)[i]?) ∧ MLies m w t (t.d.val a t.kids.length c)
def Mark (m : Bool) (w : World) (n : Nat) (a : Option Addr) (c : Nat) : Prop :=
  m = true → ∃ b o, a = some ⟨b, o, none⟩ ∧ n + 1 ≤ c ∧ b < w.heap.size ∧ w.cell? ⟨b, o + n * 8 + 1, none⟩ = some (.string behind)
def KM (m : Bool) (w : World) (ks : List Tr) (a : Option Addr) : Prop :=
  ks = [] ∨ ∃ b o, a = some ⟨b, o, none⟩ ∧ ∀ j, j < ks.length → AtM m w (ks.getD j tr0) b (o + j * 8)
variable {m : Bool} {w w' : World} {t : Tr} {ks : List Tr} {a : Option Addr} {b o c n : Nat} {v : Value}
theorem MLies.shape (h : MLies m w t v) : ∃ a c, v = t.d.val a t.kids.length c := by
  cases h with
  | mk d ks a c => exact ⟨a, c, rfl⟩
theorem MLies.kept (h : MLies m w t v) (hb : Below w.heap.size w w') : MLies m w' t v := by
  induction h with
  | mk d ks a c ds xs ns cs hm hat hk ih =>
    refine .mk d ks a c ds xs ns cs ?_ ?_ ih
    · intro e
      obtain ⟨b, o, h1, h2, h3⟩ := hm e
      have hlt : b < w.heap.size := World.block_lt_of_cell? w _ (h3 0 (by omega))
      exact ⟨b, o, h1, h2, fun i hi => (World.cell?_of_block (a := ⟨b, _, none⟩) (hb.block b hlt)).trans (h3 i hi)⟩
    · rcases hat with h | ⟨b, o, h1, h2, h3⟩
      · exact .inl h
      · exact .inr ⟨b, o, h1, Nat.lt_of_lt_of_le h2 hb.size, fun j hj i hi => (World.cell?_of_block (a := ⟨b, _, none⟩) (hb.block b h2)).trans (h3 j hj i hi)⟩
theorem AtM.kept (h : AtM m w t b o) (hb : Below w.heap.size w w') : AtM m w' t b o := by
  obtain ⟨h2, a, c, h3, h4⟩ := h
  exact ⟨Nat.lt_of_lt_of_le h2 hb.size, a, c, fun i hi => (World.cell?_of_block (a := ⟨b, _, none⟩) (hb.block b h2)).trans (h3 i hi), MLies.kept h4 hb⟩
theorem KM.kept (h : KM m w ks a) (hb : Below w.heap.size w w') : KM m w' ks a := by
  rcases h with h | ⟨b, o, h1, h2⟩
  · exact .inl h
  · exact .inr ⟨b, o, h1, fun j hj => (h2 j hj).kept hb⟩
theorem Mark.kept (h : Mark m w n a c) (hb : Below w.heap.size w w') : Mark m w' n a c := by
  intro e
  obtain ⟨b, o, h1, h2, h3, h4⟩ := h e
  exact ⟨b, o, h1, h2, Nat.lt_of_lt_of_le h3 hb.size, (World.cell?_of_block (a := ⟨b, _, none⟩) (hb.block b h3)).trans h4⟩
theorem mkids {d : Nd} (h : MLies m w (.mk d ks) v) : ∃ a c, v = d.val a ks.length c ∧ Mark m w ks.length a c ∧ KM m w ks a := by
  cases h with
  | mk _ _ a c ds xs ns cs hm hat hk =>
    refine ⟨a, c, rfl, ?_, ?_⟩
    · intro e
      obtain ⟨b, o, h1, h2, h3⟩ := hm e
      exact ⟨b, o, h1, h2, World.block_lt_of_cell? w _ (h3 0 (by omega)), h3 1 (by omega)⟩
    · rcases hat with h | ⟨b, o, rfl, h1, h3⟩
      · exact .inl h
      · refine .inr ⟨b, o, rfl, fun j hj => ?_⟩
        have hl := hk j hj
        obtain ⟨a', c', e⟩ := MLies.shape hl
        have e2 : (ds j).row (xs j) (ns j) (cs j) = (ks.getD j tr0).d.row a' (ks.getD j tr0).kids.length c' := by
          have e3 := e
          simp only [Value.agg.injEq] at e3
          exact congrArg Array.toList e3
        refine ⟨h1, a', c', fun i hi => ?_, by rw [← e]; exact hl⟩
        rw [h3 j hj i hi, e2]
theorem KM.get {j : Nat} (h : KM m w ks a) (hj : j < ks.length) : ∃ b o, a = some ⟨b, o, none⟩ ∧ AtM m w (ks.getD j tr0) b (o + j * 8) := by
  rcases h with h | ⟨b, o, h1, h2⟩
  · subst h; simp at hj
  · exact ⟨b, o, h1, h2 j hj⟩
theorem AtM.cells (h : AtM m w t b o) : ∃ a c, MLies m w t (t.d.val a t.kids.length c) ∧
    w.cell? ⟨b, o, none⟩ = some (.int .i64 t.d.k) ∧ w.cell? ⟨b, o + 1, none⟩ = some (.string t.d.text) ∧ w.cell? ⟨b, o + 2, none⟩ = some (.int .i64 t.d.n) ∧ w.cell? ⟨b, o + 3, none⟩ = some (.string t.d.ty) ∧
    w.cell? ⟨b, o + 4, none⟩ = some (.int .i64 t.d.slot) ∧ w.cell? ⟨b, o + 5, none⟩ = some (.int .i64 t.d.at_) ∧ w.cell? ⟨b, o + 6, none⟩ = some (.int .i64 t.d.line) ∧ w.cell? ⟨b, o + 7, none⟩ = some (.slice a t.kids.length c) := by
  obtain ⟨_, a, c, h, hl⟩ := h
  exact ⟨a, c, hl, h 0 (by omega), h 1 (by omega), h 2 (by omega), h 3 (by omega), h 4 (by omega), h 5 (by omega), h 6 (by omega), h 7 (by omega)⟩
set_option maxHeartbeats 4000000 in
set_option maxRecDepth 100000 in
theorem alike_any (m : Bool) : ∀ (t : Tr) (v z : Value) (S : Nat → Prop) (w : World), MLies m w t v → Lies w S t z → Fit t →
    Calls Tryz.prog 14 #[v, z, .bool m] w fun e w' => e = .returned (.bool true) ∧ Below w.heap.size w w' := by
  refine tree_ind fun d ks ih => ?_
  intro v z S w hv hu hF
  obtain ⟨a, c, rfl, hMk, hK⟩ := mkids hv
  obtain ⟨a', c', rfl, hL⟩ := kids_lie hu
  have hB := below_boxes w d d a a' ks.length ks.length c c'
  have hC := boxes_cells w d d a a' ks.length ks.length c c' (Below.refl _ _)
  have HB := Lib.hid hB
  have HC := Lib.hid hC
  have hlen := fit_len hF
  have HK := Lib.hid hK
  have HL := Lib.hid hL
  have HI : Hid (∀ j, j < ks.length → ∀ (v u : Value) (W : World), MLies m W (ks.getD j tr0) v → Lies W S (ks.getD j tr0) u → Calls Tryz.prog 14 #[v, u, .bool m] W fun e w' => e = .returned (.bool true) ∧ Below W.heap.size W w') :=
    fun j hj v u W h1 h2 => ih j hj v u S W h1 h2 (fit_kid hF hj)
  have HMK := Lib.hid (hMk.kept hB)
  have hmk2 : m = true → ∃ b o, a = some ⟨b, o, none⟩ ∧ ks.length + 1 ≤ c ∧ b < w.heap.size ∧ w.cell? ⟨b, o + ks.length * 8 + 1, none⟩ = some (.string behind) := hMk
  have HM2 := Lib.hid hmk2
  clear ih hv hu hF hK hL hMk hmk2 hB hC
  obtain ⟨k, s, n, y, s4, s5, s6⟩ := d
  cases m
  · go_enter Tryz.func14, Tryz.ntmps14
    go_wp2
    go_loopw [8, 9] (fun i _ wr => ∃ q : Nat, q ≤ ks.length ∧ i = .int .i64 q ∧ Hid (Below w.heap.size w wr) ∧ wr.cell? ⟨w.heap.size, 7, none⟩ = some (.slice a ks.length c) ∧ wr.cell? ⟨w.heap.size + 1, 7, none⟩ = some (.slice a' ks.length c') ∧ w.heap.size + 1 < wr.heap.size) (fun i _ _ => ks.length - (intOf i).toNat)
    case atStart => exact ⟨0, Nat.zero_le _, rfl, HB.out, HC.out.1, HC.out.2, by simp⟩
    case round =>
      obtain ⟨q, hq, rfl, hbw, k7, k7', hsz⟩ := hrel
      by_cases hlt : q < ks.length
      · obtain ⟨b1, o1, e1, hA⟩ := (HK.out.kept hbw.out).get hlt
        subst e1
        obtain ⟨b', o', rfl, hA'⟩ := (HL.out.kept hbw.out).get hlt
        have hb := hA.1
        have hb' := hA'.2.1
        have IH := HI.out q hlt
        obtain ⟨t, ht⟩ : ∃ t, ks.getD q tr0 = t := ⟨_, rfl⟩
        rw [ht] at IH hA hA'
        clear ht
        obtain ⟨x, cx, hx, c0, c1, c2, c3, c4, c5, c6, c7⟩ := hA.cells
        obtain ⟨z, cz, hz, d0, d1, d2, d3, d4, d5, d6, d7⟩ := hA'.cells
        have HX := Lib.hid hx
        have HZ := Lib.hid hz
        have HII := Lib.hid IH
        clear hA hA' hx hz IH
        go_wp2_with fail
        go_still_tail 11, (by kernel_rfl)
        change wpList _ _ _ _ _ wr.drew
        go_wp2_with fail
        have hq := (Below.refl wr.heap.size wr).drew
        have HQ := Lib.hid hq
        clear hq
        refine (HII.out _ _ _ (MLies.kept HX.out HQ.out) (HZ.out.kept HQ.out)).mono ?_
        rintro e w1 ⟨rfl, hb1⟩
        have hb2 := HQ.out.trans (hb1.mono HQ.out.size)
        have m7 := (hb2.cell (p := ⟨w.heap.size, 7, none⟩) (by show w.heap.size < _; omega)).trans k7
        have m7' := (hb2.cell (p := ⟨w.heap.size + 1, 7, none⟩) (by show w.heap.size + 1 < _; omega)).trans k7'
        have hsz1 : w.heap.size + 1 < w1.heap.size := Nat.lt_of_lt_of_le hsz hb2.size
        have HB1 := Lib.hid hb2
        clear hb1 hb2 k7 k7' c0 c1 c2 c3 c4 c5 c6 c7 d0 d1 d2 d3 d4 d5 d6 d7
        go_wp2
        go_roundw
        case rel => exact ⟨q + 1, by omega, by go_num, hbw.out.trans (HB1.out.mono hbw.out.size), m7, m7', hsz1⟩
        case measure => simp [intOf]; omega
      · go_wp2
        go_ret
        exact ⟨rfl, hbw.out⟩
  · obtain ⟨b, o, rfl, hc1, hblt, hbc⟩ := HM2.out rfl
    unfold behind at hbc
    go_enter Tryz.func14, Tryz.ntmps14
    go_wp2
    go_loopw [8, 9] (fun i _ wr => ∃ q : Nat, q ≤ ks.length ∧ i = .int .i64 q ∧ Hid (Below w.heap.size w wr) ∧ wr.cell? ⟨w.heap.size, 7, none⟩ = some (.slice (some ⟨b, o, none⟩) ks.length c) ∧ wr.cell? ⟨w.heap.size + 1, 7, none⟩ = some (.slice a' ks.length c') ∧ w.heap.size + 1 < wr.heap.size) (fun i _ _ => ks.length - (intOf i).toNat)
    case atStart => exact ⟨0, Nat.zero_le _, rfl, HB.out, HC.out.1, HC.out.2, by simp⟩
    case round =>
      obtain ⟨q, hq, rfl, hbw, k7, k7', hsz⟩ := hrel
      by_cases hlt : q < ks.length
      · obtain ⟨b1, o1, e1, hA⟩ := (HK.out.kept hbw.out).get hlt
        obtain ⟨rfl, rfl⟩ : b1 = b ∧ o1 = o := by simp only [Option.some.injEq, Addr.mk.injEq, and_true] at e1; exact ⟨e1.1.symm, e1.2.symm⟩
        clear e1
        obtain ⟨b', o', rfl, hA'⟩ := (HL.out.kept hbw.out).get hlt
        have hb := hA.1
        have hb' := hA'.2.1
        have IH := HI.out q hlt
        obtain ⟨t, ht⟩ : ∃ t, ks.getD q tr0 = t := ⟨_, rfl⟩
        rw [ht] at IH hA hA'
        clear ht
        obtain ⟨x, cx, hx, c0, c1, c2, c3, c4, c5, c6, c7⟩ := hA.cells
        obtain ⟨z, cz, hz, d0, d1, d2, d3, d4, d5, d6, d7⟩ := hA'.cells
        have HX := Lib.hid hx
        have HZ := Lib.hid hz
        have HII := Lib.hid IH
        clear hA hA' hx hz IH
        go_wp2_with fail
        go_still_tail 11, (by kernel_rfl)
        change wpList _ _ _ _ _ wr.drew
        go_wp2_with fail
        have hq := (Below.refl wr.heap.size wr).drew
        have HQ := Lib.hid hq
        clear hq
        refine (HII.out _ _ _ (MLies.kept HX.out HQ.out) (HZ.out.kept HQ.out)).mono ?_
        rintro e w1 ⟨rfl, hb1⟩
        have hb2 := HQ.out.trans (hb1.mono HQ.out.size)
        have m7 := (hb2.cell (p := ⟨w.heap.size, 7, none⟩) (by show w.heap.size < _; omega)).trans k7
        have m7' := (hb2.cell (p := ⟨w.heap.size + 1, 7, none⟩) (by show w.heap.size + 1 < _; omega)).trans k7'
        have hsz1 : w.heap.size + 1 < w1.heap.size := Nat.lt_of_lt_of_le hsz hb2.size
        have HB1 := Lib.hid hb2
        clear hb1 hb2 k7 k7' c0 c1 c2 c3 c4 c5 c6 c7 d0 d1 d2 d3 d4 d5 d6 d7
        go_wp2
        go_roundw
        case rel => exact ⟨q + 1, by omega, by go_num, hbw.out.trans (HB1.out.mono hbw.out.size), m7, m7', hsz1⟩
        case measure => simp [intOf]; omega
      · go_wp2
        go_ret
        exact ⟨rfl, hbw.out⟩
end Go.Proofs.YtgodeffkboihlaaGreatDoor.Tal
