/- An argument of type []api.Token, opened: a list of tokens that lies in memory; its sizes out of the bulk. -/
import Derived.Test.YtjmgfhbadnechaaDoorCards
import Derived.Test.YtjmgfhbadnechaaDoorLxk
import Derived.Deep.Slices
import Derived.Deep.Fields
import Derived.ChangeSame
set_option linter.unusedVariables false
namespace Go.Proofs.YtjmgfhbadnechaaDoor.Lxo
open Go.ChangeShapes Go.WideShapes Go.Deep Lxp Lxj Lxk

abbrev tokT : TypeId := 42
theorem fields_one : oneCellFields Tryd.prog (Tryd.prog.fieldsOf tokT) = true := by kernel_rfl
theorem tok_struct : Tryd.prog.underlying tokT = some (.struct (Tryd.prog.fieldsOf tokT)) := by kernel_rfl
theorem fields_size : (Tryd.prog.fieldsOf tokT).size = 5 := by kernel_rfl
theorem tok_cells : Tryd.prog.cellsOf tokT = 5 := by kernel_rfl
instance : Inhabited Lxp.Tok := ⟨zero⟩
theorem cell_lt {w : World} {a : Addr} {v : Value} (h : w.cell? a = some v) : a.block < w.heap.size := by
  rcases Nat.lt_or_ge a.block w.heap.size with h' | h'
  · exact h'
  · unfold World.cell? at h
    rw [Array.getElem?_eq_none (by omega)] at h
    simp at h
theorem five {α : Type} {l : List α} (h : l.length = 5) : ∃ a b c d e, l = [a, b, c, d, e] := by
  match l, h with
  | [a, b, c, d, e], _ => exact ⟨_, _, _, _, _, rfl⟩
theorem int_bounds {n : Int} (h : (Lit.int .i64 n).wf = true) : -9223372036854775808 ≤ n ∧ n ≤ 9223372036854775807 := by
  simp only [Lit.wf, IntKind.min, IntKind.max, IntKind.signed, IntKind.bits, Bool.and_eq_true, decide_eq_true_eq, if_true] at h
  simpa using h
section
variable {H : Type} {enc : TypeId × Value → H} {w : World} {base : Nat} {spare : Nat → Bool} {held : Bool}
theorem tok_field {n : Nat} {cs : List Value} {xs : List (DataW H × List MemPlace)}
    (hf : ∀ (i : Nat) (f : Field), (Tryd.prog.fieldsOf tokT)[i]? = some f → DataW.trod enc Tryd.prog w base spare held n f.type ((cs.drop f.offset).take (Tryd.prog.cellsOf f.type)) = xs[i]?)
    (hl : xs.length = 5) (hc : cs.length = 5) (i : Nat) (hi : i < 5) (T : TypeId) (hT : ((Tryd.prog.fieldsOf tokT)[i]?).map (·.type) = some T) :
    ∃ y, xs[i]? = some y ∧ DataW.trod enc Tryd.prog w base spare held n T [cs[i]] = some y := by
  obtain ⟨f, hf0, rfl⟩ := Option.map_eq_some_iff.1 hT
  obtain ⟨o, k⟩ := hone_of fields_one i f hf0
  have h := hf i f hf0
  rw [o, k] at h
  have e : (cs.drop i).take 1 = [cs[i]] := by rw [List.drop_eq_getElem_cons (by omega)]; rfl
  rw [e] at h
  have hx : xs[i]? = some xs[i] := List.getElem?_eq_getElem (by omega)
  exact ⟨_, hx, h.trans hx⟩
theorem open_tok {n : Nat} {cs : List Value} {x : DataW H × List MemPlace} (h : DataW.trod enc Tryd.prog w base spare held n tokT cs = some x) :
    ∃ (t : Lxp.Tok) (d3 d4 : DataW H) (d0 : DataW H), cs = [.int .i64 t.kind, .string t.text, .int .i64 t.num, .int .i64 t.pos, .int .i64 t.line] ∧ x.1 = .agg [d0, .lit (.string t.text.data.toList), .lit (.int .i64 t.num), d3, d4] ∧ (Lit.int .i64 t.num).wf = true := by
  obtain ⟨xs, m, _, rfl, hc, hl, hf⟩ := DataW.trod_struct tok_struct h
  rw [tok_cells] at hc
  rw [fields_size] at hl
  obtain ⟨y0, e0, t0⟩ := tok_field hf hl hc 0 (by omega) 40 (by kernel_rfl)
  obtain ⟨y1, e1, t1⟩ := tok_field hf hl hc 1 (by omega) 9 (by kernel_rfl)
  obtain ⟨y2, e2, t2⟩ := tok_field hf hl hc 2 (by omega) 2 (by kernel_rfl)
  obtain ⟨y3, e3, t3⟩ := tok_field hf hl hc 3 (by omega) 3 (by kernel_rfl)
  obtain ⟨y4, e4, t4⟩ := tok_field hf hl hc 4 (by omega) 3 (by kernel_rfl)
  obtain ⟨k, f0, rfl, _⟩ := DataW.trod_int Tryd.underlying40 t0
  obtain ⟨s, f1, rfl, _⟩ := DataW.trod_string Tryd.underlying9 t1
  obtain ⟨q, f2, rfl, wq⟩ := DataW.trod_int Tryd.underlying2 t2
  obtain ⟨p, f3, rfl, _⟩ := DataW.trod_int Tryd.underlying3 t3
  obtain ⟨l, f4, rfl, _⟩ := DataW.trod_int Tryd.underlying3 t4
  obtain ⟨c0, c1, c2, c3, c4, rfl⟩ := five hc
  obtain ⟨z0, z1, z2, z3, z4, rfl⟩ := five hl
  simp at e0 e1 e2 e3 e4 f0 f1 f2 f3 f4
  subst e0; subst e1; subst e2; subst e3; subst e4
  subst f0; subst f1; subst f2; subst f3; subst f4
  exact ⟨⟨k, s, q, p, l⟩, _, _, _, rfl, rfl, wq⟩
end

theorem bulk_mem {H : Type} : ∀ {l : List (DataW H)} {d : DataW H}, d ∈ l → Rows.uptoBulk d ≤ Rows.uptoBulkAll l
  | [], d, h => by cases h
  | e :: r, d, h => by
    rcases List.mem_cons.1 h with rfl | h
    · simp [Rows.uptoBulkAll]
    · have := bulk_mem h
      simp only [Rows.uptoBulkAll]; omega
theorem bulk_agg {H : Type} {d0 d3 d4 : DataW H} {s : List UInt8} {n : Int} : s.length + 1 ≤ Rows.uptoBulk (.agg [d0, .lit (.string s), .lit (.int .i64 n), d3, d4] : DataW H) := by
  simp only [Rows.uptoBulk, Rows.uptoBulkAll]; omega
theorem bulk_length {H : Type} : ∀ (l : List (DataW H)), (∀ d ∈ l, 1 ≤ Rows.uptoBulk d) → l.length ≤ Rows.uptoBulkAll l
  | [], _ => by simp
  | d :: r, h => by
    have h1 := h d (by simp)
    have h2 := bulk_length r (fun e he => h e (by simp [he]))
    simp only [Rows.uptoBulkAll, List.length_cons]; omega

set_option maxRecDepth 100000 in
theorem open_toks {b0 : Nat} {H : Type} {enc : TypeId × Value → H} {w : World} {v : Value} {d : DataW H} {ps : List MemPlace}
    (hval : Value.okWide Tryd.prog w .any b0 22 v) (hd : DataW.Trod enc Tryd.prog w 0 (fun _ => true) true 22 v d ps) (hk : Rows.uptoBulk d ≤ 1048576) :
    ∃ l, Lies w v l ∧ Fits l := by
  obtain ⟨a0, len, c0, rfl⟩ := okWide_slice Tryd.underlying22 hval
  obtain ⟨fuel, hf⟩ := hd
  rcases open_slice Tryd.underlying22 hf with ⟨hcs, _⟩ | ⟨x, len1, c1, m, n, D, Pl, hcs, _, hlc, hcm, hm, hx, hi⟩
  · simp [Value.cells] at hcs
    obtain ⟨rfl, rfl, rfl⟩ := hcs
    exact ⟨[], .inl ⟨rfl, _, _, rfl⟩, by simp, fun j hj => absurd hj (by simp)⟩
  · simp [Value.cells] at hcs
    obtain ⟨rfl, rfl, rfl⟩ := hcs
    simp only [if_true] at hm
    subst hm
    simp only [Prod.mk.injEq] at hx
    obtain ⟨rfl, _⟩ := hx
    rw [show Tryd.prog.cellsOf 42 = 5 from tok_cells] at hi
    have each : ∀ i, i < m → ∃ t : Lxp.Tok, (∃ d0 d3 d4, D i = .agg [d0, .lit (.string t.text.data.toList), .lit (.int .i64 t.num), d3, d4]) ∧ (Lit.int .i64 t.num).wf = true ∧
        ∀ j, j < 5 → w.cell? (x.add (i * 5 + j)) = [Value.int .i64 t.kind, .string t.text, .int .i64 t.num, .int .i64 t.pos, .int .i64 t.line][j]? := by
      intro i him
      obtain ⟨cs', hc, ht⟩ := hi i him
      obtain ⟨t, d3, d4, d0, rfl, hD, hw⟩ := open_tok ht
      obtain ⟨_, _, hat⟩ := World.cells?_some hc
      exact ⟨t, ⟨d0, d3, d4, hD⟩, hw, fun j hj => by rw [← Go.Deep.add_add]; exact hat j hj⟩
    obtain ⟨T, hT⟩ := choose_lt (α := Lxp.Tok) (p := fun i t => (∃ d0 d3 d4, D i = .agg [d0, .lit (.string t.text.data.toList), .lit (.int .i64 t.num), d3, d4]) ∧ (Lit.int .i64 t.num).wf = true ∧
        ∀ j, j < 5 → w.cell? (x.add (i * 5 + j)) = [Value.int .i64 t.kind, .string t.text, .int .i64 t.num, .int .i64 t.pos, .int .i64 t.line][j]?) each
    have hbulk : Rows.uptoBulkAll ((List.range len).map D) ≤ 1048576 := by simp only [Rows.uptoBulk] at hk; omega
    have hone : ∀ i, i < len → Rows.uptoBulk (D i) ≤ 1048576 := fun i h => Nat.le_trans (bulk_mem (List.mem_map.2 ⟨i, List.mem_range.2 h, rfl⟩)) hbulk
    have hlen : len ≤ 1048576 := by
      have := bulk_length ((List.range len).map D) (by
        intro d hd
        obtain ⟨i, hi', rfl⟩ := List.mem_map.1 hd
        obtain ⟨⟨d0, d3, d4, e⟩, _⟩ := hT i (by have := List.mem_range.1 hi'; omega)
        rw [e]; have := bulk_agg (H := H) (d0 := d0) (d3 := d3) (d4 := d4) (s := (T i).text.data.toList) (n := (T i).num); omega)
      simp at this; omega
    have hget : ∀ j, j < len → ((List.range len).map T).getD j zero = T j := by
      intro j hj; simp [List.getD_eq_getElem?_getD, hj]
    refine ⟨(List.range len).map T, ?_, by simpa using hlen, ?_⟩
    · by_cases h0 : len = 0
      · subst h0; exact .inl ⟨rfl, _, _, rfl⟩
      · right
        obtain ⟨b, o, spot⟩ := x
        have c0 := (hT 0 (by omega)).2.2 0 (by omega)
        have hspot : spot = none := by simpa [Addr.add] using World.cell?_spot c0
        subst hspot
        refine ⟨b, o, m, by simp, ?_, ?_⟩
        · have c0' := c0
          simp only [Addr.add_lit] at c0'
          exact cell_lt c0'
        · intro j hj
          have hj' : j < len := by simpa using hj
          rw [hget j hj']
          have hc := (hT j (by omega)).2.2
          have e : ∀ i, i < 5 → w.cell? ⟨b, o + j * 5 + i, none⟩ = [Value.int .i64 (T j).kind, .string (T j).text, .int .i64 (T j).num, .int .i64 (T j).pos, .int .i64 (T j).line][i]? := by
            intro i hi5
            have := hc i hi5
            rw [Addr.add_lit, ← Nat.add_assoc] at this
            exact this
          exact ⟨e 0 (by omega), e 1 (by omega), e 2 (by omega), e 3 (by omega), e 4 (by omega)⟩
    · intro j hj
      have hj' : j < len := by simpa using hj
      rw [hget j hj']
      obtain ⟨⟨d0, d3, d4, e⟩, hw, _⟩ := hT j (by omega)
      have hb := hone j hj'
      rw [e] at hb
      have hs := bulk_agg (H := H) (d0 := d0) (d3 := d3) (d4 := d4) (s := (T j).text.data.toList) (n := (T j).num)
      have el : (T j).text.data.toList.length = (T j).text.size := by rw [Array.length_toList]; rfl
      have hwf := int_bounds hw
      exact ⟨hwf.1, hwf.2, by omega⟩
end Go.Proofs.YtjmgfhbadnechaaDoor.Lxo
