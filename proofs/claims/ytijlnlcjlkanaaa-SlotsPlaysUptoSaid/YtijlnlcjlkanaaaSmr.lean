/- SlotsPlays: each method of both tables, by the pair. -/
import Derived.Test.YtijlnlcjlkanaaaSmp
set_option linter.unusedVariables false
namespace Go.Proofs.Ytijlnlcjlkanaaa.Smr
open Go.RowKit Sta Stb Stc Stg Ste Stj Stk Stl Stn Sto Sue Suf Sug Suh Sui Suj Suk Smp

/-- A block that is none of the pair's lists. -/
structure Bx (g gb : Nat) (vs vo vr : Value) (b : Nat) (o : Obj) (w : World) : Prop where
  blk : w.heap[b]? = some o
  ng : b ≠ g
  nb : b ≠ gb
  ns : vs.ownBlock ≠ some b
  no : vo.ownBlock ≠ some b
  nr : vr.ownBlock ≠ some b
variable {w0 w w' : World} {gp g gb : Nat} {vs vo vr vt vs' vo' vr' : Value} {t : Tab} {R : List Th} {most : Nat} {ts : List Hd} {b : Nat} {o : Obj}
theorem Bx.lt (h : Bx g gb vs vo vr b o w) : b < w.heap.size := (Array.getElem?_eq_some_iff.1 h.blk).1
theorem Bx.new (c : Both w0 gp g gb vs vo vr vt t R most ts w) (o : Obj) : Bx g gb vs vo vr w.heap.size o (w.alloc o) :=
  ⟨heap_alloc_new w _, by have := c.tab.lt; omega, by have := c.ref.lt; omega, fun e => by have := (c.tab.sl.lt e).2; omega, fun e => by have := (c.tab.ord.lt e).2; omega, fun e => by have := (c.ref.all.lt e).2; omega⟩
theorem Bx.below (h : Bx g gb vs vo vr b o w) (k : Below w.heap.size w w') : Bx g gb vs vo vr b o w' := ⟨(k.block b h.lt).trans h.blk, h.ng, h.nb, h.ns, h.no, h.nr⟩
theorem Bx.tab (h : Bx g gb vs vo vr b o w) (k : Step g vs vo vs' vo' w w') : Bx g gb vs' vo' vr b o w' :=
  ⟨(k.far b h.lt h.ng h.ns h.no).trans h.blk, h.ng, h.nb, fun e => (k.nvs b e).elim h.ns (fun x => by have := h.lt; omega), fun e => (k.nvo b e).elim h.no (fun x => by have := h.lt; omega), h.nr⟩
theorem Bx.ref (h : Bx g gb vs vo vr b o w) (k : RefStep gb vr vr' w w') : Bx g gb vs vo vr' b o w' :=
  ⟨(k.far b h.lt h.nb h.nr).trans h.blk, h.ng, h.nb, h.ns, h.no, fun e => (k.nv b e).elim h.nr (fun x => by have := h.lt; omega)⟩
/-- What stood aside stands. -/
def Keep (g gb : Nat) (vs vo vr vs' vo' vr' : Value) (w w' : World) : Prop := ∀ b o, Bx g gb vs vo vr b o w → Bx g gb vs' vo' vr' b o w'
/-- A method of the table. -/
def Left (w0 : World) (gp g gb : Nat) (most : Nat) (ts : List Hd) (f : FuncId) (args : Array Value) (r : Value) (t t' : Tab) (R : List Th) : Prop :=
  ∀ vs vo vr vt w, Both w0 gp g gb vs vo vr vt t R most ts w → Calls Try.prog f args w fun e w' => e = .returned r ∧ ∃ vs' vo', Both w0 gp g gb vs' vo' vr vt t' R most ts w' ∧ Keep g gb vs vo vr vs' vo' vr w w'
/-- A method of the document's table. -/
def Right (w0 : World) (gp g gb : Nat) (most : Nat) (ts : List Hd) (f : FuncId) (args : Array Value) (r : Value) (t : Tab) (R R' : List Th) : Prop :=
  ∀ vs vo vr vt w, Both w0 gp g gb vs vo vr vt t R most ts w → Calls Try.prog f args w fun e w' => e = .returned r ∧ ∃ vr', Both w0 gp g gb vs vo vr' vt t R' most ts w' ∧ Keep g gb vs vo vr vs vo vr' w w'
theorem left_quiet {f : FuncId} {args : Array Value} {r : Value} (h : ∀ vs vo w, TabAt g vs vo t w → Calls Try.prog f args w fun e w' => e = .returned r ∧ Below w.heap.size w w') : Left w0 gp g gb most ts f args r t t R := by
  intro vs vo vr vt w c
  refine (h vs vo w c.tab).mono ?_
  rintro e w' ⟨he, hb⟩
  exact ⟨he, vs, vo, c.quiet hb, fun b o k => k.below hb⟩
theorem right_quiet {f : FuncId} {args : Array Value} {r : Value} (h : ∀ vr w, RefAt gb vr R most w → Calls Try.prog f args w fun e w' => e = .returned r ∧ Below w.heap.size w w') : Right w0 gp g gb most ts f args r t R R := by
  intro vs vo vr vt w c
  refine (h vr w c.ref).mono ?_
  rintro e w' ⟨he, hb⟩
  exact ⟨he, vr, c.quiet hb, fun b o k => k.below hb⟩
theorem left_step {f : FuncId} {args : Array Value} {r : Value} {t' : Tab} (h : ∀ vs vo w, TabAt g vs vo t w → Calls Try.prog f args w fun e w' => e = .returned r ∧ ∃ vs' vo', TabAt g vs' vo' t' w' ∧ Step g vs vo vs' vo' w w') : Left w0 gp g gb most ts f args r t t' R := by
  intro vs vo vr vt w c
  refine (h vs vo w c.tab).mono ?_
  rintro e w' ⟨he, vs', vo', hT, hS⟩
  exact ⟨he, vs', vo', c.tabStep hT hS, fun b o k => k.tab hS⟩
theorem right_step {f : FuncId} {args : Array Value} {r : Value} {R' : List Th} (h : ∀ vr w, RefAt gb vr R most w → Calls Try.prog f args w fun e w' => e = .returned r ∧ ∃ vr', RefAt gb vr' R' most w' ∧ RefStep gb vr vr' w w') : Right w0 gp g gb most ts f args r t R R' := by
  intro vs vo vr vt w c
  refine (h vr w c.ref).mono ?_
  rintro e w' ⟨he, vr', hT, hS⟩
  exact ⟨he, vr', c.refStep hT hS, fun b o k => k.ref hS⟩
/-- What an error is, where one may be. -/
def codeOf (b : Bool) (e : Int) : Int := if b then 0 else e
section
variable {h : Hd} (v : Sim t R) (hn : R.length ≤ 1000) (hh : h.slot < 4294967296)
include v hn
theorem sm : Hid (Small t) := v.ok.small (by omega)
include hh
theorem plays_get : ∃ (b : Bool) (x : Int), Left w0 gp g gb most ts 11 #[.pointer (some ⟨g, 0, none⟩), .agg #[.int .u32 h.slot, .int .u32 h.gen]] (.tuple #[.int .i64 x, .int .i64 (codeOf b 102)]) t t R ∧
    Right w0 gp g gb most ts 42 #[.pointer (some ⟨gb, 0, none⟩), .agg #[.int .u32 h.slot, .int .u32 h.gen]] (.tuple #[.int .i64 x, .bool b]) t R R ∧
    Left w0 gp g gb most ts 12 #[.pointer (some ⟨g, 0, none⟩), .agg #[.int .u32 h.slot, .int .u32 h.gen]] (.bool b) t t R := by
  have hs := sm v hn
  cases hf : findR R h with
  | some i =>
    obtain ⟨hi, h1, h2, h3, h4, h5⟩ := v.found hf
    exact ⟨true, (R.getD i th0).x, left_quiet fun vs vo w k => get_yes g vs vo t h.slot h.gen w (Lib.hid k) hs (Lib.hid h3) _ (Lib.hid h4), right_quiet fun vr w k => rget_yes gb vr R most h.slot h.gen i _ w (Lib.hid k) (by omega) (Lib.hid hf) (Lib.hid rfl), left_quiet fun vs vo w k => lives_any g vs vo t h.slot h.gen w (Lib.hid k) hs hh true (Lib.hid h3)⟩
  | none =>
    have h3 := v.none_lives hf
    exact ⟨false, 0, left_quiet fun vs vo w k => get_no g vs vo t h.slot h.gen w (Lib.hid k) hs hh (Lib.hid h3), right_quiet fun vr w k => rget_no gb vr R most h.slot h.gen w (Lib.hid k) (by omega) (Lib.hid hf), left_quiet fun vs vo w k => lives_any g vs vo t h.slot h.gen w (Lib.hid k) hs hh false (Lib.hid h3)⟩
theorem plays_serial : ∃ (b : Bool) (x : Int), Left w0 gp g gb most ts 29 #[.pointer (some ⟨g, 0, none⟩), .agg #[.int .u32 h.slot, .int .u32 h.gen]] (.tuple #[.int .i64 x, .int .i64 (codeOf b 102)]) t t R ∧
    Right w0 gp g gb most ts 44 #[.pointer (some ⟨gb, 0, none⟩), .agg #[.int .u32 h.slot, .int .u32 h.gen]] (.tuple #[.int .i64 x, .bool b]) t R R := by
  have hs := sm v hn
  cases hf : findR R h with
  | some i =>
    obtain ⟨hi, h1, h2, h3, h4, h5⟩ := v.found hf
    exact ⟨true, (i : Int) + 1, left_quiet fun vs vo w k => serial_yes g vs vo t h.slot h.gen w (Lib.hid k) hs (Lib.hid h3) (i + 1) (Lib.hid h5), right_quiet fun vr w k => rserial_yes gb vr R most h.slot h.gen i w (Lib.hid k) (by omega) (Lib.hid hf)⟩
  | none =>
    have h3 := v.none_lives hf
    exact ⟨false, 0, left_quiet fun vs vo w k => serial_no g vs vo t h.slot h.gen w (Lib.hid k) hs hh (Lib.hid h3), right_quiet fun vr w k => rserial_no gb vr R most h.slot h.gen w (Lib.hid k) (by omega) (Lib.hid hf)⟩
theorem plays_set (x : Int) : ∃ (b : Bool) (t' : Tab) (R' : List Th), Left w0 gp g gb most ts 14 #[.pointer (some ⟨g, 0, none⟩), .agg #[.int .u32 h.slot, .int .u32 h.gen], .int .i64 x] (.int .i64 (codeOf b 102)) t t' R ∧
    Right w0 gp g gb most ts 43 #[.pointer (some ⟨gb, 0, none⟩), .agg #[.int .u32 h.slot, .int .u32 h.gen], .int .i64 x] (.bool b) t' R R' ∧ Sim t' R' ∧ R'.length = R.length ∧ t'.most = t.most := by
  have hs := sm v hn
  cases hf : findR R h with
  | some i =>
    obtain ⟨hi, h1, h2, h3, h4, h5⟩ := v.found hf
    exact ⟨true, _, _, left_step fun vs vo w k => (set_yes g vs vo t h.slot h.gen x w (Lib.hid k) hs (Lib.hid h3)).mono fun e w' he => ⟨he.1, _, _, he.2.1, he.2.2⟩,
      right_step fun vr w k => (rset_yes gb vr R most h.slot h.gen i x w (Lib.hid k) (by omega) (Lib.hid hf)).mono fun e w' he => ⟨he.1, _, he.2.1, he.2.2⟩, sim_set v hf, List.length_set .., rfl⟩
  | none =>
    have h3 := v.none_lives hf
    exact ⟨false, t, R, left_quiet fun vs vo w k => set_no g vs vo t h.slot h.gen x w (Lib.hid k) hs hh (Lib.hid h3), right_quiet fun vr w k => rset_no gb vr R most h.slot h.gen x w (Lib.hid k) (by omega) (Lib.hid hf), v, rfl, rfl⟩
theorem plays_free : ∃ (b : Bool) (t' : Tab) (R' : List Th), Left w0 gp g gb most ts 13 #[.pointer (some ⟨g, 0, none⟩), .agg #[.int .u32 h.slot, .int .u32 h.gen]] (.int .i64 (codeOf b 102)) t t' R ∧
    Right w0 gp g gb most ts 41 #[.pointer (some ⟨gb, 0, none⟩), .agg #[.int .u32 h.slot, .int .u32 h.gen]] (.bool b) t' R R' ∧ Sim t' R' ∧ R'.length = R.length ∧ t'.most = t.most := by
  have hs := sm v hn
  cases hf : findR R h with
  | some i =>
    obtain ⟨hi, h1, h2, h3, h4, h5⟩ := v.found hf
    have hii := v.ok.all h h3
    obtain ⟨q, hq1, hq2, hq3⟩ := first_in hii
    have hc1 : 1 ≤ t.count := by have := v.ok.ord; omega
    exact ⟨true, _, _, left_step fun vs vo w k => (free_yes g vs vo t h.slot h.gen q w (Lib.hid k) hs (Lib.hid h3) hc1 hq1 (Lib.hid hq2) (Lib.hid hq3)).mono fun e w' he => ⟨he.1, vs, he.2.elim fun vo' x => ⟨vo', x⟩⟩,
      right_step fun vr w k => (rfree_yes gb vr R most h.slot h.gen i w (Lib.hid k) (by omega) (Lib.hid hf)).mono fun e w' he => ⟨he.1, _, he.2.1, he.2.2⟩, sim_free v hf hq1 hq2, List.length_set .., rfl⟩
  | none =>
    have h3 := v.none_lives hf
    exact ⟨false, t, R, left_quiet fun vs vo w k => free_no g vs vo t h.slot h.gen w (Lib.hid k) hs hh (Lib.hid h3), right_quiet fun vr w k => rfree_no gb vr R most h.slot h.gen w (Lib.hid k) (by omega) (Lib.hid hf), v, rfl, rfl⟩
end
theorem plays_take (v : Sim t R) (hn : R.length ≤ 1000) (hm : t.most = most) (x : Int) : ∃ (b : Bool) (h : Hd) (t' : Tab) (R' : List Th), Left w0 gp g gb most ts 10 #[.pointer (some ⟨g, 0, none⟩), .int .i64 x] (.tuple #[.agg #[.int .u32 h.slot, .int .u32 h.gen], .int .i64 (codeOf b 101)]) t t' R ∧
    Right w0 gp g gb most ts 40 #[.pointer (some ⟨gb, 0, none⟩), .int .i64 x] (.tuple #[.agg #[.int .u32 h.slot, .int .u32 h.gen], .bool b]) t' R R' ∧ Sim t' R' ∧ R'.length ≤ R.length + 1 ∧ h.slot ≤ 500 ∧ t'.most = t.most := by
  have hs := sm v hn
  have hm5 := v.ok.most
  have hsl : ∀ s ∈ R, s.h.slot ≤ 1000000 := fun s k => by have := v.place s k; have := v.ok.len; omega
  cases hk : takeT t x with
  | some p =>
    obtain ⟨t', h⟩ := p
    obtain ⟨q1, q2, q3, q4, q5, q6⟩ := v.take hk
    refine ⟨true, h, t', R ++ [⟨h, x, false⟩], left_step fun vs vo w k => ?_, right_step fun vr w k => ?_, q1, by rw [List.length_append]; exact Nat.le_refl _, by omega, ?_⟩
    · refine (take_any g vs vo t x w k hs.out).mono ?_
      intro e w' he
      unfold TakeOut at he
      rw [hk] at he
      exact he
    · exact rtake_yes gb vr R most h.slot x w (Lib.hid k) (by omega) (by omega) q2 (by omega) (Lib.hid q4) (Lib.hid q5) (Lib.hid hsl) h.gen (Lib.hid q6)
    · unfold takeT at hk
      obtain ⟨⟨u, i⟩, hr, he⟩ := Option.map_eq_some_iff.1 hk
      simp only [Prod.mk.injEq] at he
      obtain ⟨rfl, _⟩ := he
      exact (room_some v.ok hr).most
  | none =>
    have hfull := v.full hk
    refine ⟨false, ⟨0, 0⟩, t, R, left_quiet fun vs vo w k => ?_, right_quiet fun vr w k => rtake_no gb vr R most x w (Lib.hid k) (by omega) (by omega) (Lib.hid fun s a b => hfull s a (by omega)) (Lib.hid hsl), v, by omega, by show 0 ≤ 500; omega, rfl⟩
    refine (take_any g vs vo t x w k hs.out).mono ?_
    intro e w' he
    unfold TakeOut at he
    rw [hk] at he
    exact he
end Go.Proofs.Ytijlnlcjlkanaaa.Smr
