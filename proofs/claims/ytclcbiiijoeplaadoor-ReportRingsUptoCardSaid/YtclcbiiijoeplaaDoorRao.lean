/- An argument of type []api.Asleep, opened: a list of rows that lies in memory; its sizes out of the bulk. -/
import Derived.Test.YtclcbiiijoeplaaDoorCards
import Derived.Test.YtclcbiiijoeplaaDoorRct
import Derived.Deep.Slices
import Derived.Deep.Fields
import Derived.ChangeSame
set_option linter.unusedVariables false
namespace Go.Proofs.YtclcbiiijoeplaaDoor.Rao
open Go.ChangeShapes Go.WideShapes Go.Deep Rsl Rct

abbrev asT : TypeId := 52
theorem as_struct : Tryd.prog.underlying asT = some (.struct (Tryd.prog.fieldsOf asT)) := by kernel_rfl
theorem fields_size : (Tryd.prog.fieldsOf asT).size = 5 := by kernel_rfl
theorem as_cells : Tryd.prog.cellsOf asT = 7 := by kernel_rfl
instance : Inhabited As := ⟨as0⟩
theorem cell_lt {w : World} {a : Addr} {v : Value} (h : w.cell? a = some v) : a.block < w.heap.size := by
  rcases Nat.lt_or_ge a.block w.heap.size with h' | h'
  · exact h'
  · unfold World.cell? at h
    rw [Array.getElem?_eq_none (by omega)] at h
    simp at h
theorem seven {α : Type} {l : List α} (h : l.length = 7) : ∃ a b c d e f g, l = [a, b, c, d, e, f, g] := by
  match l, h with
  | [a, b, c, d, e, f, g], _ => exact ⟨_, _, _, _, _, _, _, rfl⟩
theorem two {α : Type} {l : List α} (h : l.length = 2) : ∃ a b, l = [a, b] := by
  match l, h with
  | [a, b], _ => exact ⟨_, _, rfl⟩
theorem int_bounds {n : Int} (h : (Lit.int .i64 n).wf = true) : -9223372036854775808 ≤ n ∧ n ≤ 9223372036854775807 := by
  simp only [Lit.wf, IntKind.min, IntKind.max, IntKind.signed, IntKind.bits, Bool.and_eq_true, decide_eq_true_eq, if_true] at h
  simpa using h
abbrev hdT : TypeId := 49
theorem hd_struct : Tryd.prog.underlying hdT = some (.struct (Tryd.prog.fieldsOf hdT)) := by kernel_rfl
theorem hd_size : (Tryd.prog.fieldsOf hdT).size = 2 := by kernel_rfl
theorem hd_cells : Tryd.prog.cellsOf hdT = 2 := by kernel_rfl
section
variable {H : Type} {enc : TypeId × Value → H} {w : World} {base : Nat} {spare : Nat → Bool} {held : Bool}
theorem fld {T : TypeId} {n k : Nat} {cs : List Value} {xs : List (DataW H × List MemPlace)}
    (hf : ∀ (i : Nat) (f : Field), (Tryd.prog.fieldsOf T)[i]? = some f → DataW.trod enc Tryd.prog w base spare held n f.type ((cs.drop f.offset).take (Tryd.prog.cellsOf f.type)) = xs[i]?)
    (hl : xs.length = k) (i : Nat) (hi : i < k) (U : TypeId) (o z : Nat) (hT : ((Tryd.prog.fieldsOf T)[i]?).map (fun f => (f.type, f.offset)) = some (U, o)) (hz : Tryd.prog.cellsOf U = z) :
    ∃ y, xs[i]? = some y ∧ DataW.trod enc Tryd.prog w base spare held n U ((cs.drop o).take z) = some y := by
  obtain ⟨f, hf0, e⟩ := Option.map_eq_some_iff.1 hT
  simp only [Prod.mk.injEq] at e
  obtain ⟨rfl, rfl⟩ := e
  have h := hf i f hf0
  rw [hz] at h
  have hx : xs[i]? = some xs[i] := List.getElem?_eq_getElem (by omega)
  exact ⟨_, hx, h.trans hx⟩
theorem open_hd {n : Nat} {cs : List Value} {x : DataW H × List MemPlace} (h : DataW.trod enc Tryd.prog w base spare held n hdT cs = some x) : ∃ s g, cs = [.int .u32 s, .int .u32 g] ∧ 1 ≤ Rows.uptoBulk x.1 := by
  obtain ⟨xs, m, _, rfl, hc, hl, hf⟩ := DataW.trod_struct hd_struct h
  rw [hd_cells] at hc
  rw [hd_size] at hl
  obtain ⟨y0, e0, t0⟩ := fld hf hl 0 (by omega) 47 0 1 (by kernel_rfl) (by kernel_rfl)
  obtain ⟨y1, e1, t1⟩ := fld hf hl 1 (by omega) 47 1 1 (by kernel_rfl) (by kernel_rfl)
  obtain ⟨k, f0, rfl, _⟩ := DataW.trod_int Tryd.underlying47 t0
  obtain ⟨p, f1, rfl, _⟩ := DataW.trod_int Tryd.underlying47 t1
  obtain ⟨c0, c1, rfl⟩ := two hc
  simp at f0 f1
  subst f0; subst f1
  exact ⟨k, p, rfl, by simp only [Rows.uptoBulk]; omega⟩
theorem open_as {n : Nat} {cs : List Value} {x : DataW H × List MemPlace} (h : DataW.trod enc Tryd.prog w base spare held n asT cs = some x) :
    ∃ t : As, cs = [.int .u32 t.ws, .int .u32 t.wg, .int .i64 t.ser, .int .i64 t.on, .slice t.ra t.rn t.rc, .int .u32 t.hs, .int .u32 t.hg] ∧ 1 ≤ Rows.uptoBulk x.1 := by
  obtain ⟨xs, m, _, rfl, hc, hl, hf⟩ := DataW.trod_struct as_struct h
  rw [as_cells] at hc
  rw [fields_size] at hl
  obtain ⟨y0, e0, t0⟩ := fld hf hl 0 (by omega) hdT 0 2 (by kernel_rfl) (by kernel_rfl)
  obtain ⟨y1, e1, t1⟩ := fld hf hl 1 (by omega) 3 2 1 (by kernel_rfl) (by kernel_rfl)
  obtain ⟨y2, e2, t2⟩ := fld hf hl 2 (by omega) 31 3 1 (by kernel_rfl) (by kernel_rfl)
  obtain ⟨y3, e3, t3⟩ := fld hf hl 3 (by omega) 50 4 1 (by kernel_rfl) (by kernel_rfl)
  obtain ⟨y4, e4, t4⟩ := fld hf hl 4 (by omega) hdT 5 2 (by kernel_rfl) (by kernel_rfl)
  obtain ⟨a0, a1, f0, _⟩ := open_hd t0
  obtain ⟨k, f1, rfl, _⟩ := DataW.trod_int Tryd.underlying3 t1
  obtain ⟨p, f2, rfl, _⟩ := DataW.trod_int Tryd.underlying31 t2
  have f3 : ∃ a n c, (cs.drop 4).take 1 = [.slice a n c] := by
    rcases open_slice Tryd.underlying50 t3 with ⟨h3, _⟩ | ⟨x', len1, c1, m', n', D, Pl, h3, _⟩
    · exact ⟨_, _, _, h3⟩
    · exact ⟨_, _, _, h3⟩
  obtain ⟨r0, r1, r2, f3⟩ := f3
  obtain ⟨b0, b1, f4, _⟩ := open_hd t4
  obtain ⟨c0, c1, c2, c3, c4, c5, c6, rfl⟩ := seven hc
  simp at f0 f1 f2 f3 f4
  obtain ⟨rfl, rfl⟩ := f0
  obtain ⟨rfl, rfl⟩ := f4
  subst f1; subst f2; subst f3
  exact ⟨⟨a0, a1, k, p, r0, r1, r2, b0, b1⟩, rfl, by simp only [Rows.uptoBulk]; omega⟩
end

theorem bulk_mem {H : Type} : ∀ {l : List (DataW H)} {d : DataW H}, d ∈ l → Rows.uptoBulk d ≤ Rows.uptoBulkAll l
  | [], d, h => by cases h
  | e :: r, d, h => by
    rcases List.mem_cons.1 h with rfl | h
    · simp [Rows.uptoBulkAll]
    · have := bulk_mem h
      simp only [Rows.uptoBulkAll]; omega
theorem bulk_length {H : Type} : ∀ (l : List (DataW H)), (∀ d ∈ l, 1 ≤ Rows.uptoBulk d) → l.length ≤ Rows.uptoBulkAll l
  | [], _ => by simp
  | d :: r, h => by
    have h1 := h d (by simp)
    have h2 := bulk_length r (fun e he => h e (by simp [he]))
    simp only [Rows.uptoBulkAll, List.length_cons]; omega

set_option maxRecDepth 100000 in
theorem open_ass {b0 : Nat} {H : Type} {enc : TypeId × Value → H} {w : World} {v : Value} {d : DataW H} {ps : List MemPlace}
    (hval : Value.okWide Tryd.prog w .any b0 40 v) (hd : DataW.Trod enc Tryd.prog w 0 (fun _ => true) true 40 v d ps) (hk : Rows.uptoBulk d ≤ 1048576) :
    ∃ l : List As, LiesC w v l ∧ l.length ≤ 1048576 := by
  obtain ⟨a0, len, c0, rfl⟩ := okWide_slice Tryd.underlying40 hval
  obtain ⟨fuel, hf⟩ := hd
  rcases open_slice Tryd.underlying40 hf with ⟨hcs, _⟩ | ⟨x, len1, c1, m, n, D, Pl, hcs, _, hlc, hcm, hm, hx, hi⟩
  · simp [Value.cells] at hcs
    obtain ⟨rfl, rfl, rfl⟩ := hcs
    exact ⟨[], ⟨.inl ⟨rfl, _, _, rfl⟩, fun x n c e => by cases e; exact Nat.le_refl _⟩, by simp⟩
  · simp [Value.cells] at hcs
    obtain ⟨rfl, rfl, rfl⟩ := hcs
    simp only [if_true] at hm
    subst hm
    simp only [Prod.mk.injEq] at hx
    obtain ⟨rfl, _⟩ := hx
    rw [show Tryd.prog.cellsOf 52 = 7 from as_cells] at hi
    have each : ∀ i, i < m → ∃ t : As, (1 ≤ Rows.uptoBulk (D i)) ∧
        ∀ j, j < 7 → w.cell? (x.add (i * 7 + j)) = [Value.int .u32 t.ws, .int .u32 t.wg, .int .i64 t.ser, .int .i64 t.on, .slice t.ra t.rn t.rc, .int .u32 t.hs, .int .u32 t.hg][j]? := by
      intro i him
      obtain ⟨cs', hc, ht⟩ := hi i him
      obtain ⟨t, rfl, hD⟩ := open_as ht
      obtain ⟨_, _, hat⟩ := World.cells?_some hc
      exact ⟨t, hD, fun j hj => by rw [← Go.Deep.add_add]; exact hat j hj⟩
    obtain ⟨T, hT⟩ := choose_lt (α := As) (p := fun i t => (1 ≤ Rows.uptoBulk (D i)) ∧
        ∀ j, j < 7 → w.cell? (x.add (i * 7 + j)) = [Value.int .u32 t.ws, .int .u32 t.wg, .int .i64 t.ser, .int .i64 t.on, .slice t.ra t.rn t.rc, .int .u32 t.hs, .int .u32 t.hg][j]?) each
    have hbulk : Rows.uptoBulkAll ((List.range len).map D) ≤ 1048576 := by simp only [Rows.uptoBulk] at hk; omega
    have hlen : len ≤ 1048576 := by
      have := bulk_length ((List.range len).map D) (by
        intro d hd
        obtain ⟨i, hi', rfl⟩ := List.mem_map.1 hd
        exact (hT i (by have := List.mem_range.1 hi'; omega)).1)
      simp at this; omega
    have hget : ∀ j, j < len → ((List.range len).map T).getD j as0 = T j := by
      intro j hj; simp [List.getD_eq_getElem?_getD, hj]
    refine ⟨(List.range len).map T, ⟨?_, fun x n c e => by cases e; omega⟩, by simpa using hlen⟩
    by_cases h0 : len = 0
    · subst h0; exact .inl ⟨rfl, _, _, rfl⟩
    · right
      obtain ⟨b, o, spot⟩ := x
      have c0 := (hT 0 (by omega)).2 0 (by omega)
      have hspot : spot = none := by simpa [Addr.add] using World.cell?_spot c0
      subst hspot
      refine ⟨b, o, m, by simp, ?_, ?_⟩
      · have c0' := c0
        simp only [Addr.add_lit] at c0'
        exact cell_lt c0'
      · intro j hj
        have hj' : j < len := by simpa using hj
        rw [hget j hj']
        have hc := (hT j (by omega)).2
        have e : ∀ i, i < 7 → w.cell? ⟨b, o + j * 7 + i, none⟩ = [Value.int .u32 (T j).ws, .int .u32 (T j).wg, .int .i64 (T j).ser, .int .i64 (T j).on, .slice (T j).ra (T j).rn (T j).rc, .int .u32 (T j).hs, .int .u32 (T j).hg][i]? := by
          intro i hi5
          have := hc i hi5
          rw [Addr.add_lit, ← Nat.add_assoc] at this
          exact this
        exact ⟨e 0 (by omega), e 1 (by omega), e 2 (by omega), e 3 (by omega), e 4 (by omega), e 5 (by omega), e 6 (by omega)⟩
end Go.Proofs.YtclcbiiijoeplaaDoor.Rao
