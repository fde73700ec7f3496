/- An argument that is a slice, opened: a list that lies in memory, element by element; its sizes out of the bulk. It bears no function of the program. -/
import Derived.Test.YtgodeffkboihlaaGreatDoorRows
import Derived.Test.YtgodeffkboihlaaGreatDoorRwo
import Derived.Deep.Slices
import Derived.Deep.Fields
import Derived.ChangeSame
set_option linter.unusedVariables false
namespace Go.Proofs.YtgodeffkboihlaaGreatDoor.Slo
open Go.RowKit Go.ChangeShapes Go.WideShapes Go.Deep Rwo

/-- A list that lies in memory, as a slice's value. -/
def Arg {α : Type} (E : Enc α) (w : World) (v : Value) (l : List α) : Prop :=
  (l = [] ∧ ∃ x c, v = .slice x 0 c) ∨ ∃ b o c, v = .slice (some ⟨b, o, none⟩) l.length c ∧ b < w.heap.size ∧ ∀ j, j < l.length → ∀ i, i < E.z → w.cell? ⟨b, o + j * E.z + i, none⟩ = (E.f (l.getD j E.d))[i]?
theorem Arg.below {α : Type} {E : Enc α} {w w' : World} {v : Value} {l : List α} (h : Arg E w v l) (hb : Below w.heap.size w w') : Arg E w' v l := by
  rcases h with h | ⟨b, o, c, rfl, h1, h2⟩
  · exact .inl h
  · exact .inr ⟨b, o, c, rfl, Nat.lt_of_lt_of_le h1 hb.size, fun j hj i hi => (hb.cell (p := ⟨b, _, none⟩) h1).trans (h2 j hj i hi)⟩
theorem cell_lt {w : World} {a : Addr} {v : Value} (h : w.cell? a = some v) : a.block < w.heap.size := by
  rcases Nat.lt_or_ge a.block w.heap.size with h' | h'
  · exact h'
  · unfold World.cell? at h
    rw [Array.getElem?_eq_none (by omega)] at h
    simp at h
theorem i64_bounds {n : Int} (h : (Lit.int .i64 n).wf = true) : -9223372036854775808 ≤ n ∧ n ≤ 9223372036854775807 := by
  simp only [Lit.wf, IntKind.min, IntKind.max, IntKind.signed, IntKind.bits, Bool.and_eq_true, decide_eq_true_eq, if_true] at h
  simpa using h
theorem u32_bounds {n : Int} (h : (Lit.int .u32 n).wf = true) : 0 ≤ n ∧ n < 4294967296 := by
  simp only [Lit.wf, IntKind.min, IntKind.max, IntKind.signed, IntKind.bits, Bool.and_eq_true] at h
  simp at h; omega
theorem bulk_mem {H : Type} : ∀ {l : List (DataW H)} {d : DataW H}, d ∈ l → Rows.uptoBulk d ≤ Rows.uptoBulkAll l
  | [], d, h => by cases h
  | e :: r, d, h => by
    rcases List.mem_cons.1 h with rfl | h
    · simp [Rows.uptoBulkAll]
    · have := bulk_mem h
      simp only [Rows.uptoBulkAll]; omega
theorem bulk_length {H : Type} : ∀ (l : List (DataW H)), (∀ d ∈ l, 1 ≤ Rows.uptoBulk d) → l.length ≤ Rows.uptoBulkAll l
  | [], _ => by simp
  | d :: r, h => by
    have h1 := h d (by simp)
    have h2 := bulk_length r (fun e he => h e (by simp [he]))
    simp only [Rows.uptoBulkAll, List.length_cons]; omega
theorem bulk_pos {H : Type} (d : DataW H) : 1 ≤ Rows.uptoBulk d := by
  cases d with
  | lit l => cases l <;> simp only [Rows.uptoBulk] <;> omega
  | _ => simp only [Rows.uptoBulk]; omega
section
variable {H : Type} {enc : TypeId × Value → H} {P : Program} {w : World}
/-- A field of a struct that was trod, by its place and its cells. -/
theorem field_at {base n : Nat} {spare : Nat → Bool} {held : Bool} {fs : Array Field} {cs : List Value} {xs : List (DataW H × List MemPlace)}
    (hf : ∀ (i : Nat) (f : Field), fs[i]? = some f → DataW.trod enc P w base spare held n f.type ((cs.drop f.offset).take (P.cellsOf f.type)) = xs[i]?)
    (hl : xs.length = fs.size) (i : Nat) (T : TypeId) (o k : Nat) (hT : (fs[i]?).map (fun f => (f.type, f.offset)) = some (T, o)) (hk : P.cellsOf T = k) :
    ∃ y, xs[i]? = some y ∧ DataW.trod enc P w base spare held n T ((cs.drop o).take k) = some y := by
  obtain ⟨f, hf0, he⟩ := Option.map_eq_some_iff.1 hT
  simp only [Prod.mk.injEq] at he
  obtain ⟨rfl, rfl⟩ := he
  have h := hf i f hf0
  rw [hk] at h
  have hi : i < xs.length := by rw [hl]; exact (Array.getElem?_eq_some_iff.1 hf0).1
  exact ⟨xs[i], List.getElem?_eq_getElem hi, h.trans (List.getElem?_eq_getElem hi)⟩
variable {α : Type} [Inhabited α] (E : Enc α) (Q : α → DataW H → Prop)
theorem open_rows {t e : TypeId} (ht : P.underlying t = some (.slice e)) (hz : P.cellsOf e = E.z)
    (one : ∀ n cs x, DataW.trod enc P w 0 (fun _ => true) true n e cs = some x → ∃ a, cs = E.f a ∧ Q a x.1)
    {b0 : Nat} {v : Value} {d : DataW H} {ps : List MemPlace} (hval : Value.okWide P w .any b0 t v) (hd : DataW.Trod enc P w 0 (fun _ => true) true t v d ps) {K : Nat} (hk : Rows.uptoBulk d ≤ K) :
    ∃ l, Arg E w v l ∧ l.length ≤ K ∧ ∀ j, j < l.length → ∃ dj, Q (l.getD j E.d) dj ∧ Rows.uptoBulk dj ≤ K := by
  obtain ⟨a0, len, c0, rfl⟩ := okWide_slice ht hval
  obtain ⟨fuel, hf⟩ := hd
  rcases open_slice ht hf with ⟨hcs, _⟩ | ⟨x, len1, c1, m, n, D, Pl, hcs, _, hlc, hcm, hm, hx, hi⟩
  · simp [Value.cells] at hcs
    obtain ⟨rfl, rfl, rfl⟩ := hcs
    exact ⟨[], .inl ⟨rfl, _, _, rfl⟩, Nat.zero_le _, fun j hj => absurd hj (by simp)⟩
  · simp [Value.cells] at hcs
    obtain ⟨rfl, rfl, rfl⟩ := hcs
    simp only [if_true] at hm
    subst hm
    simp only [Prod.mk.injEq] at hx
    obtain ⟨rfl, _⟩ := hx
    rw [hz] at hi
    have each : ∀ i, i < m → ∃ a : α, Q a (D i) ∧ ∀ j, j < E.z → w.cell? (x.add (i * E.z + j)) = (E.f a)[j]? := by
      intro i him
      obtain ⟨cs', hc, ht⟩ := hi i him
      obtain ⟨a, rfl, hD⟩ := one _ _ _ ht
      obtain ⟨_, _, hat⟩ := World.cells?_some hc
      exact ⟨a, hD, fun j hj => by rw [← Go.Deep.add_add]; exact hat j hj⟩
    obtain ⟨T, hT⟩ := choose_lt (α := α) (p := fun i a => Q a (D i) ∧ ∀ j, j < E.z → w.cell? (x.add (i * E.z + j)) = (E.f a)[j]?) each
    have hbulk : Rows.uptoBulkAll ((List.range len).map D) ≤ K := by simp only [Rows.uptoBulk] at hk; omega
    have hone : ∀ i, i < len → Rows.uptoBulk (D i) ≤ K := fun i h => Nat.le_trans (bulk_mem (List.mem_map.2 ⟨i, List.mem_range.2 h, rfl⟩)) hbulk
    have hlen : len ≤ K := by
      have := bulk_length ((List.range len).map D) (fun d _ => bulk_pos d)
      simp at this; omega
    have hget : ∀ j, j < len → ((List.range len).map T).getD j E.d = T j := by
      intro j hj; simp [List.getD_eq_getElem?_getD, hj]
    refine ⟨(List.range len).map T, ?_, by simpa using hlen, ?_⟩
    · by_cases h0 : len = 0
      · subst h0; exact .inl ⟨rfl, _, _, rfl⟩
      · right
        obtain ⟨b, o, spot⟩ := x
        have hE := E.pos
        have c0 := (hT 0 (by omega)).2 0 hE
        have hl0 : (E.f (T 0)).length = E.z := E.len _
        rw [List.getElem?_eq_getElem (by omega)] at c0
        have hspot : spot = none := by simpa [Addr.add] using World.cell?_spot c0
        subst hspot
        refine ⟨b, o, m, by simp, ?_, ?_⟩
        · have c0' := c0
          simp only [Addr.add_lit] at c0'
          exact cell_lt c0'
        · intro j hj i hi
          have hj' : j < len := by simpa using hj
          rw [hget j hj']
          have := (hT j (by omega)).2 i hi
          rw [Addr.add_lit, ← Nat.add_assoc] at this
          exact this
    · intro j hj
      have hj' : j < len := by simpa using hj
      rw [hget j hj']
      exact ⟨D j, (hT j (by omega)).1, hone j hj'⟩
end
end Go.Proofs.YtgodeffkboihlaaGreatDoor.Slo
