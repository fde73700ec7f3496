/- Trees at an address, lists of kids at an address; marks of kinds: the program's and the reference's. -/
import Derived.Test.YtgodeffkboihlaaGreatDoorTcn
import Derived.Test.YtgodeffkboihlaaGreatDoorM1
set_option linter.unusedVariables false
namespace Go.Proofs.YtgodeffkboihlaaGreatDoor.Trh
open Go.RowKit Tra Trb Trd Tcn

/-- A tree whose own cells stand at ⟨b, o⟩. -/
def At (w : World) (S : Nat → Prop) (t : Tr) (b o : Nat) : Prop :=
  S b ∧ b < w.heap.size ∧ ∃ a c, (∀ i, i < 8 → w.cell? ⟨b, o + i, none⟩ = (t.d.row a t.kids.length c)[i]?) ∧ Lies w S t (t.d.val a t.kids.length c)
/-- A list of trees, from an address on. -/
def KL (w : World) (S : Nat → Prop) (ks : List Tr) (a : Option Addr) : Prop :=
  ks = [] ∨ ∃ b o, a = some ⟨b, o, none⟩ ∧ ∀ j, j < ks.length → At w S (ks.getD j tr0) b (o + j * 8)
variable {w w' : World} {S S' : Nat → Prop} {t : Tr} {ks : List Tr} {a : Option Addr} {b o c : Nat}
theorem At.kept (h : At w S t b o) (hb : Below w.heap.size w w') : At w' S t b o := by
  obtain ⟨h1, h2, a, c, h3, h4⟩ := h
  exact ⟨h1, Nat.lt_of_lt_of_le h2 hb.size, a, c, fun i hi => (World.cell?_of_block (a := ⟨b, _, none⟩) (hb.block b h2)).trans (h3 i hi), h4.kept hb⟩
theorem KL.kept (h : KL w S ks a) (hb : Below w.heap.size w w') : KL w' S ks a := by
  rcases h with h | ⟨b, o, h1, h2⟩
  · exact .inl h
  · exact .inr ⟨b, o, h1, fun j hj => (h2 j hj).kept hb⟩
theorem At.mono (h : At w S t b o) (hS : ∀ b, b < w.heap.size → S b → S' b) : At w S' t b o := by
  obtain ⟨h1, h2, a, c, h3, h4⟩ := h
  exact ⟨hS b h2 h1, h2, a, c, h3, h4.mono hS⟩
theorem kids_lie {d : Nd} {x : Value} (h : Lies w S (.mk d ks) x) : ∃ a c, x = d.val a ks.length c ∧ KL w S ks a := by
  cases h with
  | mk _ _ a c ds xs ns cs hcap hat hk =>
    refine ⟨a, c, rfl, ?_⟩
    rcases hat with h | ⟨b, o, rfl, h1, h2, h3⟩
    · exact .inl h
    · refine .inr ⟨b, o, rfl, fun j hj => ?_⟩
      have hl := hk j hj
      obtain ⟨a', c', e⟩ := hl.shape
      have e2 : (ds j).row (xs j) (ns j) (cs j) = (ks.getD j tr0).d.row a' (ks.getD j tr0).kids.length c' := by
        have e3 := e
        simp only [Value.agg.injEq] at e3
        have := congrArg Array.toList e3
        exact this
      refine ⟨h2, h1, a', c', fun i hi => ?_, by rw [← e]; exact hl⟩
      rw [h3 j hj i hi, e2]
theorem kids_cap {d : Nd} {c : Nat} (h : Lies w S (.mk d ks) (d.val a ks.length c)) : ks.length ≤ c := by
  generalize hx : d.val a ks.length c = x at h
  cases h with
  | mk _ _ a' c' ds xs ns cs hcap hat hk =>
    simp only [Value.agg.injEq] at hx
    have := congrArg Array.toList hx
    simp only [List.cons.injEq, Value.slice.injEq] at this
    rw [this.2.2.2.2.2.2.2.1.2.2]; exact hcap
theorem KL.get {j : Nat} (h : KL w S ks a) (hj : j < ks.length) : ∃ b o, a = some ⟨b, o, none⟩ ∧ At w S (ks.getD j tr0) b (o + j * 8) := by
  rcases h with h | ⟨b, o, h1, h2⟩
  · subst h; simp at hj
  · exact ⟨b, o, h1, h2 j hj⟩
/-- A tree's cells, one by one. -/
theorem At.cells (h : At w S t b o) : ∃ a c, Lies w S t (t.d.val a t.kids.length c) ∧
    w.cell? ⟨b, o, none⟩ = some (.int .i64 t.d.k) ∧ w.cell? ⟨b, o + 1, none⟩ = some (.string t.d.text) ∧ w.cell? ⟨b, o + 2, none⟩ = some (.int .i64 t.d.n) ∧ w.cell? ⟨b, o + 3, none⟩ = some (.string t.d.ty) ∧
    w.cell? ⟨b, o + 4, none⟩ = some (.int .i64 t.d.slot) ∧ w.cell? ⟨b, o + 5, none⟩ = some (.int .i64 t.d.at_) ∧ w.cell? ⟨b, o + 6, none⟩ = some (.int .i64 t.d.line) ∧ w.cell? ⟨b, o + 7, none⟩ = some (.slice a t.kids.length c) := by
  obtain ⟨_, _, a, c, h, hl⟩ := h
  exact ⟨a, c, hl, h 0 (by omega), h 1 (by omega), h 2 (by omega), h 3 (by omega), h 4 (by omega), h 5 (by omega), h 6 (by omega), h 7 (by omega)⟩
/-- A node in its box. -/
theorem At.box {W : World} {d : Nd} (h : Lies w S (.mk d ks) (d.val a ks.length c)) (hb : Below (box w d a ks.length c).heap.size (box w d a ks.length c) W) : At W (fun _ => True) (.mk d ks) w.heap.size 0 := by
  refine ⟨trivial, Nat.lt_of_lt_of_le (by simp) hb.size, a, c, fun i hi => ?_, ?_⟩
  · have := box_cell w d a ks.length c hb i hi
    rw [Nat.zero_add]; exact this
  · exact (h.mono fun _ _ _ => trivial).kept ((box_below w d a ks.length c).trans (hb.mono (by simp)))
theorem KL.take (h : KL w S ks a) (n : Nat) : KL w S (ks.take n) a := by
  rcases h with h | ⟨b, o, h1, h2⟩
  · subst h; exact .inl (by simp)
  · refine .inr ⟨b, o, h1, fun j hj => ?_⟩
    rw [List.length_take] at hj
    have hj1 : j < n := by omega
    have e : (ks.take n).getD j tr0 = ks.getD j tr0 := by simp [List.getD_eq_getElem?_getD, hj1]
    rw [e]; exact h2 j (by omega)
theorem KL.drop {b o : Nat} (h : KL w S ks (some ⟨b, o, none⟩)) (n : Nat) : KL w S (ks.drop n) (some ⟨b, o + n * 8, none⟩) := by
  rcases h with h | ⟨b', o', h1, h2⟩
  · subst h; exact .inl (by simp)
  · simp only [Option.some.injEq, Addr.mk.injEq, and_true] at h1
    obtain ⟨rfl, rfl⟩ := h1
    refine .inr ⟨b, o + n * 8, rfl, fun j hj => ?_⟩
    simp at hj
    have e : (ks.drop n).getD j tr0 = ks.getD (n + j) tr0 := by simp [List.getD_eq_getElem?_getD, List.getElem?_drop]
    have := h2 (n + j) (by omega)
    rw [e, show o + n * 8 + j * 8 = o + (n + j) * 8 by omega]; exact this
set_option maxHeartbeats 4000000 in
set_option maxRecDepth 100000 in
theorem marks_any (k : Int) (w : World) : Calls Tryz.prog 33 #[.int .i64 k] w fun e w' => e = .returned (.bool (marks k)) ∧ w = w' := by
  by_cases h : 21 ≤ k ∧ k ≤ 30
  · have h' : k = 21 ∨ k = 22 ∨ k = 23 ∨ k = 24 ∨ k = 25 ∨ k = 26 ∨ k = 27 ∨ k = 28 ∨ k = 29 ∨ k = 30 := by omega
    clear h
    rcases h' with rfl | rfl | rfl | rfl | rfl | rfl | rfl | rfl | rfl | rfl
    all_goals
      go_enter Tryz.func33, Tryz.ntmps33
      go_wp2
      go_ret
      exact ⟨rfl, rfl⟩
  · have e1 : (k == 26) = false := by simp; omega
    have e2 : (k == 27) = false := by simp; omega
    have e3 : (k == 28) = false := by simp; omega
    have e4 : (k == 30) = false := by simp; omega
    have hm : Hid (marks k = false) := by
      show marks k = false
      unfold marks
      rw [e1, e2, e3, e4]; simp; omega
    by_cases h1 : 21 ≤ k
    · have e5 : decide (21 ≤ k) = true := by simpa using h1
      have e6 : decide (k ≤ 24) = false := by simp; omega
      clear h
      go_enter Tryz.func33, Tryz.ntmps33
      go_wp2
      go_ret
      exact ⟨by rw [hm.out]; rfl, rfl⟩
    · have e5 : decide (21 ≤ k) = false := by simpa using h1
      clear h
      go_enter Tryz.func33, Tryz.ntmps33
      go_wp2
      go_ret
      exact ⟨by rw [hm.out]; rfl, rfl⟩
set_option maxHeartbeats 4000000 in
set_option maxRecDepth 100000 in
theorem marked_any (k : Int) (w : World) : Calls Tryz.prog 35 #[.int .i64 k] w fun e w' => e = .returned (.bool (marks k)) ∧ w = w' := by
  by_cases h : 21 ≤ k ∧ k ≤ 30
  · have h' : k = 21 ∨ k = 22 ∨ k = 23 ∨ k = 24 ∨ k = 25 ∨ k = 26 ∨ k = 27 ∨ k = 28 ∨ k = 29 ∨ k = 30 := by omega
    clear h
    rcases h' with rfl | rfl | rfl | rfl | rfl | rfl | rfl | rfl | rfl | rfl
    all_goals
      go_enter Tryz.func35, Tryz.ntmps35
      go_wp2
      go_ret
      exact ⟨rfl, rfl⟩
  · have e1 : (k == 26) = false := by simp; omega
    have e2 : (k == 27) = false := by simp; omega
    have e3 : (k == 28) = false := by simp; omega
    have e4 : (k == 30) = false := by simp; omega
    have e5 : (k == 21) = false := by simp; omega
    have e6 : (k == 22) = false := by simp; omega
    have e7 : (k == 23) = false := by simp; omega
    have e8 : (k == 24) = false := by simp; omega
    have hm : Hid (marks k = false) := by
      show marks k = false
      unfold marks
      rw [e1, e2, e3, e4]; simp; omega
    clear h
    go_enter Tryz.func35, Tryz.ntmps35
    go_wp2
    go_ret
    exact ⟨by rw [hm.out]; rfl, rfl⟩
end Go.Proofs.YtgodeffkboihlaaGreatDoor.Trh
