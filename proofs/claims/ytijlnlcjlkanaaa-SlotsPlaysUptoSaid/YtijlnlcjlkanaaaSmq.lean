/- SlotsPlays: of which handle an op speaks. -/
import Derived.Test.YtijlnlcjlkanaaaSmp
import Derived.Test.YtijlnlcjlkanaaaSlp
import Derived.Test.YtijlnlcjlkanaaaStp
set_option linter.unusedVariables false
namespace Go.Proofs.Ytijlnlcjlkanaaa.Smq
open Go.RowKit Rwo Sta Stb Stc Stg Ste Stl Stn Slp Stp

abbrev opV (o : Ins) : Value := .agg #[.int .i64 o.kind, .int .i64 o.x, .int .i64 o.which, .int .i64 o.early, .int .u32 o.slot, .int .u32 o.gen, .bool o.hand]
/-- The handle of an op. -/
def hof (o : Ins) (ts : List Hd) : Hd := if o.hand = true ∨ ts.length = 0 then ⟨o.slot, o.gen⟩ else ts.getD (pk o.which ts.length) ⟨0, 0⟩
theorem hd_result1 {fn : Func} {p : Tmp} (h : fn.results = #[.cell p 33]) (tmps : Array Value) (w : World) (g : Nat) (cs : Array Value)
    (hp : tmps.getD p undef = .pointer (some ⟨g, 0, none⟩)) (hg : w.heap[g]? = some (.cells cs 33 (0, 0))) (hs : cs.size = 2) :
    (results fn tmps).run Try.prog w = .ok (.agg cs) w :=
  results_cell_row h tmps w g _ cs _ _ hp hg Try.underlying33 rfl (by rw [hs]; kernel_rfl)
theorem hd_below (w : World) (o : Obj) (a b : Int) : Below w.heap.size w ((w.alloc o).alloc (.cells #[.int .u32 a, .int .u32 b] 33)) :=
  ((Below.refl w.heap.size w).alloc (Nat.le_refl _) o).alloc (by simp) _
theorem hd_put (w : World) (o : Obj) (a b : Int) : ((w.alloc o).alloc (.cells #[.int .u32 a, .int .u32 b] 33)).heap[w.heap.size + 1]? = some (.cells #[.int .u32 a, .int .u32 b] 33 (0, 0)) := by
  have h0 := heap_alloc_new (w.alloc o) (.cells #[.int .u32 a, .int .u32 b] 33)
  rw [alloc_size] at h0
  exact h0
set_option maxHeartbeats 4000000 in
set_option maxRecDepth 100000 in
theorem handle_any (o : Ins) (B : Nat) (vt : Value) (ts : List Hd) (w : World) (hf : OpFits o) (h : Rwo.Own hdE 33 B vt ts w) (hn : ts.length ≤ 1000000) (y : Hd) (hy : hof o ts = y) :
    Calls Try.prog 39 #[opV o, vt] w fun e w' => e = .returned (.agg #[.int .u32 y.slot, .int .u32 y.gen]) ∧ Below w.heap.size w w' := by
  obtain ⟨A, c, rfl⟩ := h.shape
  have HO := Lib.hid h
  have HF := Lib.hid hf
  unfold hof at hy
  clear h hf
  obtain ⟨k, x, wh, ea, s, gn, hd⟩ := o
  by_cases h1 : hd = true ∨ ts.length = 0
  · rw [if_pos h1] at hy
    subst hy
    have h2 : hd = true ∨ (hd = false ∧ ts.length = 0) := by
      cases hd
      · exact .inr ⟨rfl, by simpa using h1⟩
      · exact .inl rfl
    clear h1
    rcases h2 with rfl | ⟨rfl, h2⟩
    all_goals
      go_enter Try.func39, Try.ntmps39
      go_wp2
      refine bodyPost_ret (hd_result1 rfl _ _ (w.heap.size + 1) #[.int .u32 s, .int .u32 gn] rfl (hd_put w _ s gn) rfl) rfl ?_
      exact ⟨rfl, hd_below w _ s gn⟩
  · rw [if_neg h1] at hy
    have h2 : hd = false ∧ ts.length ≠ 0 := by
      cases hd
      · exact ⟨rfl, fun e => h1 (.inr e)⟩
      · exact absurd (.inl rfl) h1
    clear h1
    obtain ⟨rfl, h2⟩ := h2
    have CP := pick_any wh ts.length ((w.alloc (.cells #[.int .i64 k, .int .i64 x, .int .i64 wh, .int .i64 ea, .int .u32 s, .int .u32 gn, .bool false] 35)).alloc (.cells #[.int .u32 0, .int .u32 0] 33)) HF.out.which.1 HF.out.which.2 (by omega) hn
    have hlt := pk_lt wh ts.length (by omega)
    simp only at hy
    obtain ⟨j, hj⟩ : ∃ j, pk wh ts.length = j := ⟨_, rfl⟩
    rw [hj] at hy hlt CP
    clear hj
    obtain ⟨bt, ct, _, hv, _⟩ := Own.some HO.out (by intro e; rw [e] at h2; exact h2 rfl)
    simp only [Value.slice.injEq] at hv
    obtain ⟨rfl, _, rfl⟩ := hv
    have hO2 := HO.out.below (hd_below w (.cells #[.int .i64 k, .int .i64 x, .int .i64 wh, .int .i64 ea, .int .u32 s, .int .u32 gn, .bool false] 35) 0 0) (Nat.le_refl _)
    have e2 : ((ts.length : Int) == 0) = false := by rw [beq_eq_false_iff_ne]; omega
    obtain ⟨d0, d1⟩ := hd_at hO2 j hlt hy
    obtain ⟨ys, yg⟩ := y
    simp only at d0 d1
    clear hO2 hy
    go_enter Try.func39, Try.ntmps39
    go_wp2_with fail
    refine CP.mono ?_
    rintro e w1 ⟨rfl, rfl⟩
    go_wp2
    refine bodyPost_ret (hd_result1 rfl _ _ (w.heap.size + 1) #[.int .u32 ys, .int .u32 yg] rfl (hd_put w _ ys yg) rfl) rfl ?_
    exact ⟨rfl, hd_below w _ ys yg⟩
end Go.Proofs.Ytijlnlcjlkanaaa.Smq
