/- An argument of type []api.Blocked, opened: a list of rows that lies in memory; its sizes out of the bulk. -/
import Derived.Test.YtclcbiiijoeplaaDoorCards
import Derived.Test.YtclcbiiijoeplaaDoorRbs
import Derived.Deep.Slices
import Derived.Deep.Fields
import Derived.ChangeSame
set_option linter.unusedVariables false
namespace Go.Proofs.YtclcbiiijoeplaaDoor.Rbo
open Go.ChangeShapes Go.WideShapes Go.Deep Rpl Rbk Rpt Rbs

abbrev bkT : TypeId := 33
theorem fields_one : oneCellFields Tryd.prog (Tryd.prog.fieldsOf bkT) = true := by kernel_rfl
theorem bk_struct : Tryd.prog.underlying bkT = some (.struct (Tryd.prog.fieldsOf bkT)) := by kernel_rfl
theorem fields_size : (Tryd.prog.fieldsOf bkT).size = 4 := by kernel_rfl
theorem bk_cells : Tryd.prog.cellsOf bkT = 4 := by kernel_rfl
instance : Inhabited Bk := ⟨bk0⟩
theorem cell_lt {w : World} {a : Addr} {v : Value} (h : w.cell? a = some v) : a.block < w.heap.size := by
  rcases Nat.lt_or_ge a.block w.heap.size with h' | h'
  · exact h'
  · unfold World.cell? at h
    rw [Array.getElem?_eq_none (by omega)] at h
    simp at h
theorem four {α : Type} {l : List α} (h : l.length = 4) : ∃ a b c d, l = [a, b, c, d] := by
  match l, h with
  | [a, b, c, d], _ => exact ⟨_, _, _, _, rfl⟩
theorem int_bounds {n : Int} (h : (Lit.int .i64 n).wf = true) : -9223372036854775808 ≤ n ∧ n ≤ 9223372036854775807 := by
  simp only [Lit.wf, IntKind.min, IntKind.max, IntKind.signed, IntKind.bits, Bool.and_eq_true, decide_eq_true_eq, if_true] at h
  simpa using h
section
variable {H : Type} {enc : TypeId × Value → H} {w : World} {base : Nat} {spare : Nat → Bool} {held : Bool}
theorem bk_field {n : Nat} {cs : List Value} {xs : List (DataW H × List MemPlace)}
    (hf : ∀ (i : Nat) (f : Field), (Tryd.prog.fieldsOf bkT)[i]? = some f → DataW.trod enc Tryd.prog w base spare held n f.type ((cs.drop f.offset).take (Tryd.prog.cellsOf f.type)) = xs[i]?)
    (hl : xs.length = 4) (hc : cs.length = 4) (i : Nat) (hi : i < 4) (T : TypeId) (hT : ((Tryd.prog.fieldsOf bkT)[i]?).map (·.type) = some T) :
    ∃ y, xs[i]? = some y ∧ DataW.trod enc Tryd.prog w base spare held n T [cs[i]] = some y := by
  obtain ⟨f, hf0, rfl⟩ := Option.map_eq_some_iff.1 hT
  obtain ⟨o, k⟩ := hone_of fields_one i f hf0
  have h := hf i f hf0
  rw [o, k] at h
  have e : (cs.drop i).take 1 = [cs[i]] := by rw [List.drop_eq_getElem_cons (by omega)]; rfl
  rw [e] at h
  have hx : xs[i]? = some xs[i] := List.getElem?_eq_getElem (by omega)
  exact ⟨_, hx, h.trans hx⟩
theorem open_bk {n : Nat} {cs : List Value} {x : DataW H × List MemPlace} (h : DataW.trod enc Tryd.prog w base spare held n bkT cs = some x) :
    ∃ (t : Bk) (d0 d1 d3 : DataW H), cs = [.int .i64 t.ser, .int .i64 t.lin, .string t.fn, .int .i64 t.on] ∧ x.1 = .agg [d0, d1, .lit (.string t.fn.data.toList), d3] ∧ 1 ≤ Rows.uptoBulk d0 ∧ 1 ≤ Rows.uptoBulk d1 ∧ 1 ≤ Rows.uptoBulk d3 := by
  obtain ⟨xs, m, _, rfl, hc, hl, hf⟩ := DataW.trod_struct bk_struct h
  rw [bk_cells] at hc
  rw [fields_size] at hl
  obtain ⟨y0, e0, t0⟩ := bk_field hf hl hc 0 (by omega) 3 (by kernel_rfl)
  obtain ⟨y1, e1, t1⟩ := bk_field hf hl hc 1 (by omega) 3 (by kernel_rfl)
  obtain ⟨y2, e2, t2⟩ := bk_field hf hl hc 2 (by omega) 9 (by kernel_rfl)
  obtain ⟨y3, e3, t3⟩ := bk_field hf hl hc 3 (by omega) 31 (by kernel_rfl)
  obtain ⟨k, f0, rfl, _⟩ := DataW.trod_int Tryd.underlying3 t0
  obtain ⟨p, f1, rfl, _⟩ := DataW.trod_int Tryd.underlying3 t1
  obtain ⟨s, f2, rfl, _⟩ := DataW.trod_string Tryd.underlying9 t2
  obtain ⟨l, f3, rfl, _⟩ := DataW.trod_int Tryd.underlying31 t3
  obtain ⟨c0, c1, c2, c3, rfl⟩ := four hc
  obtain ⟨z0, z1, z2, z3, rfl⟩ := four hl
  simp at e0 e1 e2 e3 f0 f1 f2 f3
  subst e0; subst e1; subst e2; subst e3
  subst f0; subst f1; subst f2; subst f3
  exact ⟨⟨k, p, s, l⟩, _, _, _, rfl, rfl, by simp [Rows.uptoBulk], by simp [Rows.uptoBulk], by simp [Rows.uptoBulk]⟩
end

theorem bulk_mem {H : Type} : ∀ {l : List (DataW H)} {d : DataW H}, d ∈ l → Rows.uptoBulk d ≤ Rows.uptoBulkAll l
  | [], d, h => by cases h
  | e :: r, d, h => by
    rcases List.mem_cons.1 h with rfl | h
    · simp [Rows.uptoBulkAll]
    · have := bulk_mem h
      simp only [Rows.uptoBulkAll]; omega
theorem bulk_agg {H : Type} {d0 d1 d3 : DataW H} {s : List UInt8} (h0 : 1 ≤ Rows.uptoBulk d0) (h1 : 1 ≤ Rows.uptoBulk d1) (h3 : 1 ≤ Rows.uptoBulk d3) : s.length + 5 ≤ Rows.uptoBulk (.agg [d0, d1, .lit (.string s), d3] : DataW H) := by
  simp only [Rows.uptoBulk, Rows.uptoBulkAll]; omega
theorem bulk_sum {H : Type} : ∀ (D : Nat → DataW H) (T : Nat → Bk) (n : Nat), (∀ i, i < n → (T i).fn.size + 5 ≤ Rows.uptoBulk (D i)) → (((List.range n).map T).map fun b => b.fn.size + 5).sum ≤ Rows.uptoBulkAll ((List.range n).map D)
  | D, T, 0, _ => by simp
  | D, T, n + 1, h => by
    have ih := bulk_sum D T n (fun i hi => h i (by omega))
    have h1 := h n (by omega)
    have app : ∀ (a b : List (DataW H)), Rows.uptoBulkAll (a ++ b) = Rows.uptoBulkAll a + Rows.uptoBulkAll b := by
      intro a b
      induction a with
      | nil => simp [Rows.uptoBulkAll]
      | cons x a iha => simp only [List.cons_append, Rows.uptoBulkAll, iha]; omega
    rw [List.range_succ, List.map_append, List.map_append, List.sum_append, List.map_append, app]
    simp only [List.map_cons, List.map_nil, List.sum_cons, List.sum_nil, Rows.uptoBulkAll]
    omega
theorem bulk_length {H : Type} : ∀ (l : List (DataW H)), (∀ d ∈ l, 1 ≤ Rows.uptoBulk d) → l.length ≤ Rows.uptoBulkAll l
  | [], _ => by simp
  | d :: r, h => by
    have h1 := h d (by simp)
    have h2 := bulk_length r (fun e he => h e (by simp [he]))
    simp only [Rows.uptoBulkAll, List.length_cons]; omega

set_option maxRecDepth 100000 in
theorem open_bks {b0 : Nat} {H : Type} {enc : TypeId × Value → H} {w : World} {v : Value} {d : DataW H} {ps : List MemPlace}
    (hval : Value.okWide Tryd.prog w .any b0 22 v) (hd : DataW.Trod enc Tryd.prog w 0 (fun _ => true) true 22 v d ps) (hk : Rows.uptoBulk d ≤ 1048576) :
    ∃ l, Lies w v l ∧ FitsB l := by
  obtain ⟨a0, len, c0, rfl⟩ := okWide_slice Tryd.underlying22 hval
  obtain ⟨fuel, hf⟩ := hd
  rcases open_slice Tryd.underlying22 hf with ⟨hcs, _⟩ | ⟨x, len1, c1, m, n, D, Pl, hcs, _, hlc, hcm, hm, hx, hi⟩
  · simp [Value.cells] at hcs
    obtain ⟨rfl, rfl, rfl⟩ := hcs
    exact ⟨[], .inl ⟨rfl, _, _, rfl⟩, ⟨by simp, fun j hj => absurd hj (by simp)⟩, by simp⟩
  · simp [Value.cells] at hcs
    obtain ⟨rfl, rfl, rfl⟩ := hcs
    simp only [if_true] at hm
    subst hm
    simp only [Prod.mk.injEq] at hx
    obtain ⟨rfl, _⟩ := hx
    rw [show Tryd.prog.cellsOf 33 = 4 from bk_cells] at hi
    have each : ∀ i, i < m → ∃ t : Bk, (t.fn.size + 5 ≤ Rows.uptoBulk (D i)) ∧
        ∀ j, j < 4 → w.cell? (x.add (i * 4 + j)) = [Value.int .i64 t.ser, .int .i64 t.lin, .string t.fn, .int .i64 t.on][j]? := by
      intro i him
      obtain ⟨cs', hc, ht⟩ := hi i him
      obtain ⟨t, d0, d1, d3, rfl, hD, k0, k1, k3⟩ := open_bk ht
      obtain ⟨_, _, hat⟩ := World.cells?_some hc
      refine ⟨t, ?_, fun j hj => by rw [← Go.Deep.add_add]; exact hat j hj⟩
      simp only at hD
      rw [hD]
      have el : t.fn.data.toList.length = t.fn.size := by rw [Array.length_toList]; rfl
      have := bulk_agg (H := H) (d0 := d0) (d1 := d1) (d3 := d3) (s := t.fn.data.toList) k0 k1 k3
      omega
    obtain ⟨T, hT⟩ := choose_lt (α := Bk) (p := fun i t => (t.fn.size + 5 ≤ Rows.uptoBulk (D i)) ∧
        ∀ j, j < 4 → w.cell? (x.add (i * 4 + j)) = [Value.int .i64 t.ser, .int .i64 t.lin, .string t.fn, .int .i64 t.on][j]?) each
    have hbulk : Rows.uptoBulkAll ((List.range len).map D) ≤ 1048576 := by simp only [Rows.uptoBulk] at hk; omega
    have hone : ∀ i, i < len → Rows.uptoBulk (D i) ≤ 1048576 := fun i h => Nat.le_trans (bulk_mem (List.mem_map.2 ⟨i, List.mem_range.2 h, rfl⟩)) hbulk
    have hsum := bulk_sum D T len (fun i h => (hT i (by omega)).1)
    have hlen : len ≤ 1048576 := by
      have := bulk_length ((List.range len).map D) (by
        intro d hd
        obtain ⟨i, hi', rfl⟩ := List.mem_map.1 hd
        have := (hT i (by have := List.mem_range.1 hi'; omega)).1
        omega)
      simp at this; omega
    have hget : ∀ j, j < len → ((List.range len).map T).getD j bk0 = T j := by
      intro j hj; simp [List.getD_eq_getElem?_getD, hj]
    refine ⟨(List.range len).map T, ?_, ⟨by simpa using hlen, ?_⟩, by omega⟩
    · by_cases h0 : len = 0
      · subst h0; exact .inl ⟨rfl, _, _, rfl⟩
      · right
        obtain ⟨b, o, spot⟩ := x
        have c0 := (hT 0 (by omega)).2 0 (by omega)
        have hspot : spot = none := by simpa [Addr.add] using World.cell?_spot c0
        subst hspot
        refine ⟨b, o, m, by simp, ?_, ?_⟩
        · have c0' := c0
          simp only [Addr.add_lit] at c0'
          exact cell_lt c0'
        · intro j hj
          have hj' : j < len := by simpa using hj
          rw [hget j hj']
          have hc := (hT j (by omega)).2
          have e : ∀ i, i < 4 → w.cell? ⟨b, o + j * 4 + i, none⟩ = [Value.int .i64 (T j).ser, .int .i64 (T j).lin, .string (T j).fn, .int .i64 (T j).on][i]? := by
            intro i hi5
            have := hc i hi5
            rw [Addr.add_lit, ← Nat.add_assoc] at this
            exact this
          exact ⟨e 0 (by omega), e 1 (by omega), e 2 (by omega), e 3 (by omega)⟩
    · intro j hj
      have hj' : j < len := by simpa using hj
      rw [hget j hj']
      have h1 := (hT j (by omega)).1
      have h2 := hone j hj'
      omega
end Go.Proofs.YtclcbiiijoeplaaDoor.Rbo
