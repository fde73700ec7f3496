/- An argument that is a tree of nodes, opened. It bears no function of the program. -/
import Derived.Test.YtgodeffkboihlaaGreatDoorTra
import Derived.Test.YtgodeffkboihlaaGreatDoorSlo
set_option linter.unusedVariables false
namespace Go.Proofs.YtgodeffkboihlaaGreatDoor.Trb
open Go.RowKit Go.ChangeShapes Go.WideShapes Go.Deep Tra Slo

def In64 (n : Int) : Prop := -9223372036854775808 ≤ n ∧ n ≤ 9223372036854775807
structure NdFit (d : Nd) : Prop where
  k : In64 d.k
  n : In64 d.n
  slot : In64 d.slot
  at_ : In64 d.at_
  line : In64 d.line
  text : d.text.size ≤ 1048576
  ty : d.ty.size ≤ 1048576
inductive Fit : Tr → Prop
  | mk (d : Nd) (ks : List Tr) (hd : NdFit d) (hl : ks.length ≤ 1048576) (h : ∀ j, j < ks.length → Fit (ks.getD j tr0)) : Fit (.mk d ks)
/-- What is asked of a node's type. -/
structure NodeTy (P : Program) (T S : TypeId) (U : Nat → TypeId) : Prop where
  st : P.underlying T = some (.struct (P.fieldsOf T))
  sl : P.underlying S = some (.slice T)
  cells : P.cellsOf T = 8
  size : (P.fieldsOf T).size = 8
  fs : ∀ i, i < 8 → ((P.fieldsOf T)[i]?).map (fun f => (f.type, f.offset)) = some (U i, i) ∧ P.cellsOf (U i) = 1
  u0 : P.underlying (U 0) = some (.int .i64)
  u1 : P.underlying (U 1) = some .string
  u2 : P.underlying (U 2) = some (.int .i64)
  u3 : P.underlying (U 3) = some .string
  u4 : P.underlying (U 4) = some (.int .i64)
  u5 : P.underlying (U 5) = some (.int .i64)
  u6 : P.underlying (U 6) = some (.int .i64)
  u7 : U 7 = S
theorem eight {α : Type} {l : List α} (h : l.length = 8) : ∃ a b c d e f g i, l = [a, b, c, d, e, f, g, i] := by
  match l, h with
  | [a, b, c, d, e, f, g, i], _ => exact ⟨_, _, _, _, _, _, _, _, rfl⟩
section
variable {H : Type} {enc : TypeId × Value → H} {P : Program} {w : World} {T S : TypeId} {U : Nat → TypeId}
set_option maxRecDepth 100000 in
theorem open_node (N : NodeTy P T S U) : ∀ (B n : Nat) (cs : List Value) (x : DataW H × List MemPlace), DataW.trod enc P w 0 (fun _ => true) true n T cs = some x → Rows.uptoBulk x.1 ≤ B → B ≤ 1048576 →
    ∃ t a c, cs = t.d.row a t.kids.length c ∧ Lies w (fun _ => True) t (t.d.val a t.kids.length c) ∧ Fit t := by
  intro B
  induction B with
  | zero => intro n cs x _ hx _; have := bulk_pos x.1; omega
  | succ B ih =>
    intro n cs x h hx hB
    obtain ⟨xs, m, _, rfl, hc, hl, hf⟩ := DataW.trod_struct N.st h
    rw [N.cells] at hc
    obtain ⟨y0, e0, t0⟩ := field_at hf hl 0 _ _ _ (N.fs 0 (by omega)).1 (N.fs 0 (by omega)).2
    obtain ⟨y1, e1, t1⟩ := field_at hf hl 1 _ _ _ (N.fs 1 (by omega)).1 (N.fs 1 (by omega)).2
    obtain ⟨y2, e2, t2⟩ := field_at hf hl 2 _ _ _ (N.fs 2 (by omega)).1 (N.fs 2 (by omega)).2
    obtain ⟨y3, e3, t3⟩ := field_at hf hl 3 _ _ _ (N.fs 3 (by omega)).1 (N.fs 3 (by omega)).2
    obtain ⟨y4, e4, t4⟩ := field_at hf hl 4 _ _ _ (N.fs 4 (by omega)).1 (N.fs 4 (by omega)).2
    obtain ⟨y5, e5, t5⟩ := field_at hf hl 5 _ _ _ (N.fs 5 (by omega)).1 (N.fs 5 (by omega)).2
    obtain ⟨y6, e6, t6⟩ := field_at hf hl 6 _ _ _ (N.fs 6 (by omega)).1 (N.fs 6 (by omega)).2
    obtain ⟨y7, e7, t7⟩ := field_at hf hl 7 _ _ _ (N.fs 7 (by omega)).1 (N.fs 7 (by omega)).2
    have hin : ∀ (i : Nat) (y : DataW H × List MemPlace), xs[i]? = some y → Rows.uptoBulk y.1 ≤ B := by
      intro i y hy
      have hm : y.1 ∈ xs.map (·.1) := List.mem_map.2 ⟨y, List.mem_of_getElem? hy, rfl⟩
      have := bulk_mem hm
      simp only [Rows.uptoBulk] at hx; omega
    obtain ⟨k, f0, rfl, w0⟩ := DataW.trod_int N.u0 t0
    obtain ⟨s1, f1, rfl, _⟩ := DataW.trod_string N.u1 t1
    obtain ⟨nn, f2, rfl, w2⟩ := DataW.trod_int N.u2 t2
    obtain ⟨s3, f3, rfl, _⟩ := DataW.trod_string N.u3 t3
    obtain ⟨sl, f4, rfl, w4⟩ := DataW.trod_int N.u4 t4
    obtain ⟨at_, f5, rfl, w5⟩ := DataW.trod_int N.u5 t5
    obtain ⟨li, f6, rfl, w6⟩ := DataW.trod_int N.u6 t6
    rw [N.u7] at t7
    obtain ⟨c0, c1, c2, c3, c4, c5, c6, c7, rfl⟩ := eight hc
    simp at f0 f1 f2 f3 f4 f5 f6
    subst f0; subst f1; subst f2; subst f3; subst f4; subst f5; subst f6
    have hs1 := hin 1 _ e1
    have hs3 := hin 3 _ e3
    simp only [Rows.uptoBulk] at hs1 hs3
    have hd : NdFit ⟨k, s1, nn, s3, sl, at_, li⟩ := ⟨i64_bounds w0, i64_bounds w2, i64_bounds w4, i64_bounds w5, i64_bounds w6, by simp at hs1 ⊢; omega, by simp at hs3 ⊢; omega⟩
    have hb7 := hin 7 _ e7
    rcases open_slice N.sl t7 with ⟨hcs, _⟩ | ⟨a, len, cap, m', n', D, Pl, hcs, _, hlc, hcm, hm, rfl, hi⟩
    · simp at hcs
      subst hcs
      exact ⟨.mk ⟨k, s1, nn, s3, sl, at_, li⟩ [], none, 0, rfl, .mk _ [] none 0 (fun _ => nd0) (fun _ => none) (fun _ => 0) (fun _ => 0) (.inl rfl) (fun j hj => absurd hj (by simp)), .mk _ [] hd (by simp) (fun j hj => absurd hj (by simp))⟩
    · simp at hcs
      subst hcs
      simp only [if_true] at hm
      subst hm
      rw [N.cells] at hi
      have hall : Rows.uptoBulkAll ((List.range len).map D) ≤ B := by
        dsimp only at hb7
        simp only [Rows.uptoBulk] at hb7; omega
      have hlen := bulk_length ((List.range len).map D) (fun d _ => bulk_pos d)
      simp at hlen
      have each : ∀ i, i < len → ∃ q : Tr × Option Addr × Nat, (∀ j, j < 8 → w.cell? (a.add (i * 8 + j)) = (q.1.d.row q.2.1 q.1.kids.length q.2.2)[j]?) ∧ Lies w (fun _ => True) q.1 (q.1.d.val q.2.1 q.1.kids.length q.2.2) ∧ Fit q.1 := by
        intro i hil
        obtain ⟨cs', hc', ht'⟩ := hi i (by omega)
        have hDi : Rows.uptoBulk (D i) ≤ B := by
          have := bulk_mem (d := D i) (l := (List.range len).map D) (List.mem_map.2 ⟨i, List.mem_range.2 hil, rfl⟩)
          omega
        obtain ⟨t, a', c', rfl, h1, h2⟩ := ih n' cs' _ ht' hDi (by omega)
        obtain ⟨_, _, hat⟩ := World.cells?_some hc'
        exact ⟨(t, a', c'), fun j hj => by rw [← Go.Deep.add_add]; exact hat j hj, h1, h2⟩
      have : Inhabited (Tr × Option Addr × Nat) := ⟨(tr0, none, 0)⟩
      obtain ⟨Q, hQ⟩ := choose_lt (α := Tr × Option Addr × Nat) (p := fun i q => (∀ j, j < 8 → w.cell? (a.add (i * 8 + j)) = (q.1.d.row q.2.1 q.1.kids.length q.2.2)[j]?) ∧ Lies w (fun _ => True) q.1 (q.1.d.val q.2.1 q.1.kids.length q.2.2) ∧ Fit q.1) each
      have hget : ∀ j, j < len → ((List.range len).map fun i => (Q i).1).getD j tr0 = (Q j).1 := by
        intro j hj; simp [List.getD_eq_getElem?_getD, hj]
      have hkl : ((List.range len).map fun i => (Q i).1).length = len := by simp
      refine ⟨.mk ⟨k, s1, nn, s3, sl, at_, li⟩ ((List.range len).map fun i => (Q i).1), some a, m', ?_, ?_, ?_⟩
      · show _ = Nd.row _ _ ((List.range len).map fun i => (Q i).1).length _
        rw [hkl]
        rfl
      · refine .mk _ _ (some a) m' (fun j => (Q j).1.d) (fun j => (Q j).2.1) (fun j => (Q j).1.kids.length) (fun j => (Q j).2.2) ?_ ?_
        · by_cases h0 : len = 0
          · subst h0; exact .inl rfl
          · right
            obtain ⟨b, o, spot⟩ := a
            have c0 := (hQ 0 (by omega)).1 0 (by omega)
            have hspot : spot = none := by simpa [Addr.add] using World.cell?_spot c0
            subst hspot
            refine ⟨b, o, rfl, ?_, trivial, ?_⟩
            · have := c0
              simp only [Addr.add_lit] at this
              exact cell_lt this
            · intro j hj i hi8
              rw [hkl] at hj
              have := (hQ j hj).1 i hi8
              rw [Addr.add_lit, ← Nat.add_assoc] at this
              exact this
        · intro j hj
          rw [hkl] at hj
          rw [hget j hj]
          exact (hQ j hj).2.1
      · refine .mk _ _ hd (by rw [hkl]; omega) ?_
        intro j hj
        rw [hkl] at hj
        rw [hget j hj]
        exact (hQ j hj).2.2
/-- A tree as a call's argument. -/
theorem open_tree (N : NodeTy P T S U) {b0 : Nat} {v : Value} {d : DataW H} {ps : List MemPlace} (hval : Value.okWide P w .any b0 T v) (hd : DataW.Trod enc P w 0 (fun _ => true) true T v d ps) (hk : Rows.uptoBulk d ≤ 1048576) :
    ∃ t, Lies w (fun _ => True) t v ∧ Fit t := by
  obtain ⟨cs, rfl, _⟩ := okWide_struct N.st hval
  obtain ⟨fuel, hf⟩ := hd
  obtain ⟨t, a, c, hc, h1, h2⟩ := open_node N 1048576 _ _ _ hf hk (by omega)
  refine ⟨t, ?_, h2⟩
  have hc' : cs.toList = t.d.row a t.kids.length c := hc
  cases cs
  simp only at hc'
  rw [hc']
  exact h1
end
end Go.Proofs.YtgodeffkboihlaaGreatDoor.Trb
