/- Arguments []drowselaw10.Op, []int, []string, opened. -/
import Derived.Test.YtijlnlcjlkanaaaSlo
import Derived.Test.YtijlnlcjlkanaaaSta
set_option linter.unusedVariables false
namespace Go.Proofs.Ytijlnlcjlkanaaa.Slp
open Go.RowKit Go.ChangeShapes Go.WideShapes Go.Deep Rwo Slo

/-- An op of a script. -/
structure Ins where
  kind : Int
  x : Int
  which : Int
  early : Int
  slot : Nat
  gen : Nat
  hand : Bool
deriving Inhabited
def opE : Enc Ins where
  z := 7
  f o := [.int .i64 o.kind, .int .i64 o.x, .int .i64 o.which, .int .i64 o.early, .int .u32 o.slot, .int .u32 o.gen, .bool o.hand]
  d := ⟨0, 0, 0, 0, 0, 0, false⟩
  len _ := rfl
  one s u hu := by
    simp only [List.mem_cons, List.not_mem_nil, or_false] at hu
    rcases hu with rfl | rfl | rfl | rfl | rfl | rfl | rfl <;> rfl
  pos := by omega
def i64E : Enc Int where
  z := 1
  f n := [.int .i64 n]
  d := 0
  len _ := rfl
  one s u hu := by
    simp only [List.mem_cons, List.not_mem_nil, or_false] at hu
    rcases hu with rfl; rfl
  pos := by omega
def strE : Enc ByteArray where
  z := 1
  f s := [.string s]
  d := ⟨#[]⟩
  len _ := rfl
  one s u hu := by
    simp only [List.mem_cons, List.not_mem_nil, or_false] at hu
    rcases hu with rfl; rfl
  pos := by omega
/-- An int's bounds. -/
def In64 (n : Int) : Prop := -9223372036854775808 ≤ n ∧ n ≤ 9223372036854775807
/-- The bounds of an op's numbers. -/
structure OpFits (o : Ins) : Prop where
  kind : In64 o.kind
  x : In64 o.x
  which : In64 o.which
  early : In64 o.early
  slot : o.slot < 4294967296
  gen : o.gen < 4294967296
theorem u32_nat {n : Int} (h : (Lit.int .u32 n).wf = true) : ∃ m : Nat, n = m ∧ m < 4294967296 := by
  obtain ⟨h1, h2⟩ := u32_bounds h
  exact ⟨n.toNat, by omega, by omega⟩
theorem op_struct : Try.prog.underlying 35 = some (.struct (Try.prog.fieldsOf 35)) := by kernel_rfl
theorem hd_struct : Try.prog.underlying 33 = some (.struct (Try.prog.fieldsOf 33)) := by kernel_rfl
theorem op_cells : Try.prog.cellsOf 35 = 7 := by kernel_rfl
theorem hd_cells : Try.prog.cellsOf 33 = 2 := by kernel_rfl
theorem op_size : (Try.prog.fieldsOf 35).size = 6 := by kernel_rfl
theorem hd_size : (Try.prog.fieldsOf 33).size = 2 := by kernel_rfl
section
variable {H : Type} {enc : TypeId × Value → H} {w : World}
theorem two {α : Type} {l : List α} (h : l.length = 2) : ∃ a b, l = [a, b] := by
  match l, h with
  | [a, b], _ => exact ⟨_, _, rfl⟩
theorem seven {α : Type} {l : List α} (h : l.length = 7) : ∃ a b c d e f g, l = [a, b, c, d, e, f, g] := by
  match l, h with
  | [a, b, c, d, e, f, g], _ => exact ⟨_, _, _, _, _, _, _, rfl⟩
theorem open_hd {n : Nat} {cs : List Value} {x : DataW H × List MemPlace} (h : DataW.trod enc Try.prog w 0 (fun _ => true) true n 33 cs = some x) :
    ∃ a b : Nat, cs = [.int .u32 a, .int .u32 b] ∧ a < 4294967296 ∧ b < 4294967296 ∧ x.1 = .agg [.lit (.int .u32 a), .lit (.int .u32 b)] := by
  obtain ⟨xs, m, _, rfl, hc, hl, hf⟩ := DataW.trod_struct hd_struct h
  rw [hd_cells] at hc
  obtain ⟨y0, e0, k0⟩ := field_at hf hl 0 31 0 1 (by kernel_rfl) (by kernel_rfl)
  obtain ⟨y1, e1, k1⟩ := field_at hf hl 1 31 1 1 (by kernel_rfl) (by kernel_rfl)
  rw [hd_size] at hl
  obtain ⟨z0, z1, rfl⟩ := two hl
  obtain ⟨c0, c1, rfl⟩ := two hc
  simp only [List.getElem?_cons_zero, List.getElem?_cons_succ, Option.some.injEq, List.drop_zero, List.drop_succ_cons, List.take_succ_cons, List.take_zero] at e0 e1 k0 k1
  subst e0; subst e1
  obtain ⟨a, q0, rfl, w0⟩ := DataW.trod_int Try.underlying31 k0
  obtain ⟨b, q1, rfl, w1⟩ := DataW.trod_int Try.underlying31 k1
  obtain ⟨a, rfl, ha⟩ := u32_nat w0
  obtain ⟨b, rfl, hb⟩ := u32_nat w1
  simp only [List.cons.injEq, and_true] at q0 q1
  subst q0; subst q1
  exact ⟨a, b, rfl, ha, hb, rfl⟩
theorem open_op {n : Nat} {cs : List Value} {x : DataW H × List MemPlace} (h : DataW.trod enc Try.prog w 0 (fun _ => true) true n 35 cs = some x) :
    ∃ o : Ins, cs = opE.f o ∧ OpFits o := by
  obtain ⟨xs, m, _, rfl, hc, hl, hf⟩ := DataW.trod_struct op_struct h
  rw [op_cells] at hc
  obtain ⟨y0, e0, k0⟩ := field_at hf hl 0 3 0 1 (by kernel_rfl) (by kernel_rfl)
  obtain ⟨y1, e1, k1⟩ := field_at hf hl 1 3 1 1 (by kernel_rfl) (by kernel_rfl)
  obtain ⟨y2, e2, k2⟩ := field_at hf hl 2 3 2 1 (by kernel_rfl) (by kernel_rfl)
  obtain ⟨y3, e3, k3⟩ := field_at hf hl 3 3 3 1 (by kernel_rfl) (by kernel_rfl)
  obtain ⟨y4, e4, k4⟩ := field_at hf hl 4 33 4 2 (by kernel_rfl) (by kernel_rfl)
  obtain ⟨y5, e5, k5⟩ := field_at hf hl 5 4 6 1 (by kernel_rfl) (by kernel_rfl)
  clear hf h
  obtain ⟨c0, c1, c2, c3, c4, c5, c6, rfl⟩ := seven hc
  simp only [List.drop_zero, List.drop_succ_cons, List.take_succ_cons, List.take_zero] at k0 k1 k2 k3 k4 k5
  obtain ⟨v0, q0, r0, w0⟩ := DataW.trod_int Try.underlying3 k0
  obtain ⟨v1, q1, r1, w1⟩ := DataW.trod_int Try.underlying3 k1
  obtain ⟨v2, q2, r2, w2⟩ := DataW.trod_int Try.underlying3 k2
  obtain ⟨v3, q3, r3, w3⟩ := DataW.trod_int Try.underlying3 k3
  obtain ⟨a, b, q4, ha, hb, _⟩ := open_hd k4
  obtain ⟨v5, q5, r5⟩ := DataW.trod_bool Try.underlying4 k5
  simp only [List.cons.injEq, and_true] at q0 q1 q2 q3 q4 q5
  subst q0; subst q1; subst q2; subst q3; subst q5
  obtain ⟨rfl, rfl⟩ := q4
  exact ⟨⟨v0, v1, v2, v3, a, b, v5⟩, rfl, ⟨i64_bounds w0, i64_bounds w1, i64_bounds w2, i64_bounds w3, ha, hb⟩⟩
/-- The ops of a script are in bounds. -/
def OpsFit (l : List Ins) : Prop := l.length ≤ 1048576 ∧ ∀ j, j < l.length → OpFits (l.getD j opE.d)
theorem open_ops {b0 : Nat} {v : Value} {d : DataW H} {ps : List MemPlace} (hval : Value.okWide Try.prog w .any b0 22 v) (hd : DataW.Trod enc Try.prog w 0 (fun _ => true) true 22 v d ps) (hk : Rows.uptoBulk d ≤ 1048576) :
    ∃ l, Arg opE w v l ∧ OpsFit l := by
  obtain ⟨l, h1, h2, h3⟩ := open_rows opE (fun o _ => OpFits o) Try.underlying22 op_cells (fun n cs x h => open_op h) hval hd hk
  exact ⟨l, h1, h2, fun j hj => by obtain ⟨_, q, _⟩ := h3 j hj; exact q⟩
/-- The numbers of a list are in bounds. -/
def IntsFit (l : List Int) : Prop := l.length ≤ 1048576 ∧ ∀ j, j < l.length → In64 (l.getD j i64E.d)
theorem open_ints {b0 : Nat} {v : Value} {d : DataW H} {ps : List MemPlace} (hval : Value.okWide Try.prog w .any b0 30 v) (hd : DataW.Trod enc Try.prog w 0 (fun _ => true) true 30 v d ps) (hk : Rows.uptoBulk d ≤ 1048576) :
    ∃ l, Arg i64E w v l ∧ IntsFit l := by
  obtain ⟨l, h1, h2, h3⟩ := open_rows i64E (fun n _ => In64 n) Try.underlying30 (by kernel_rfl) (fun n cs x h => by obtain ⟨q, rfl, _, w0⟩ := DataW.trod_int Try.underlying3 h; exact ⟨q, rfl, i64_bounds w0⟩) hval hd hk
  exact ⟨l, h1, h2, fun j hj => by obtain ⟨_, q, _⟩ := h3 j hj; exact q⟩
/-- The texts of a list are not too long. -/
def TextsFit (l : List ByteArray) : Prop := l.length ≤ 1048576 ∧ ∀ j, j < l.length → (l.getD j strE.d).size ≤ 1048576
instance : Inhabited ByteArray := ⟨⟨#[]⟩⟩
theorem open_texts {b0 : Nat} {v : Value} {d : DataW H} {ps : List MemPlace} (hval : Value.okWide Try.prog w .any b0 45 v) (hd : DataW.Trod enc Try.prog w 0 (fun _ => true) true 45 v d ps) (hk : Rows.uptoBulk d ≤ 1048576) :
    ∃ l, Arg strE w v l ∧ TextsFit l := by
  obtain ⟨l, h1, h2, h3⟩ := open_rows strE (fun s (d : DataW H) => s.size ≤ Rows.uptoBulk d) Try.underlying45 (by kernel_rfl) (fun n cs x h => by
    obtain ⟨q, rfl, rfl, w0⟩ := DataW.trod_string Try.underlying9 h
    refine ⟨q, rfl, ?_⟩
    simp only [Rows.uptoBulk]
    have el : q.data.toList.length = q.size := by rw [Array.length_toList]; rfl
    omega) hval hd hk
  exact ⟨l, h1, h2, fun j hj => by obtain ⟨_, q, r⟩ := h3 j hj; exact Nat.le_trans q r⟩
theorem open_handle {b0 : Nat} {v : Value} {d : DataW H} {ps : List MemPlace} (hval : Value.okWide Try.prog w .any b0 33 v) (hd : DataW.Trod enc Try.prog w 0 (fun _ => true) true 33 v d ps) :
    ∃ a b : Nat, v = .agg #[.int .u32 a, .int .u32 b] ∧ a < 4294967296 ∧ b < 4294967296 := by
  obtain ⟨cs, rfl, _⟩ := okWide_struct hd_struct hval
  obtain ⟨fuel, hf⟩ := hd
  obtain ⟨a, b, hc, ha, hb, _⟩ := open_hd hf
  refine ⟨a, b, ?_, ha, hb⟩
  have hc' : cs.toList = [.int .u32 a, .int .u32 b] := hc
  cases cs
  simp only at hc'
  rw [hc']
end
end Go.Proofs.Ytijlnlcjlkanaaa.Slp
