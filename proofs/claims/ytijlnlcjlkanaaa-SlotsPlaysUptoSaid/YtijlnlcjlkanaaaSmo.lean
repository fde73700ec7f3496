/- (*drowselaw10.pair).all: what its second loop keeps. -/
import Derived.Test.YtijlnlcjlkanaaaSmm
import Derived.Test.YtijlnlcjlkanaaaRng
set_option linter.unusedVariables false
namespace Go.Proofs.Ytijlnlcjlkanaaa.Smo
open Go.RowKit Go.Shelf Sta Stb Stc Stg Ste Stl Stn Sue Suf Sug Suj Suk Sud Sul Smm

/-- Are the handles that have come the first that should? -/
def okh (T pre : List (Hd × Int)) : Bool := decide ((T.map (·.1)).take pre.length = pre.map (·.1))
theorem okh_nil (T : List (Hd × Int)) : okh T [] = true := by unfold okh; simp
theorem okh_all (T : List (Hd × Int)) : okh T T = true := by unfold okh; rw [List.take_of_length_le (by simp)]; simp
theorem okh_succ {T pre : List (Hd × Int)} {x y : Hd × Int} (hn : pre.length < T.length) (hy : T[pre.length] = y) : okh T (pre ++ [x]) = (okh T pre && decide (y.1 = x.1)) := by
  have hn' : pre.length < (T.map (·.1)).length := by rw [List.length_map]; exact hn
  unfold okh
  rw [Bool.eq_iff_iff]
  simp only [decide_eq_true_eq, Bool.and_eq_true, List.length_append, List.length_cons, List.length_nil]
  rw [List.take_succ_eq_append_getElem hn', List.getElem_map, hy, List.map_append]
  constructor
  · intro h
    have := List.append_inj h (by rw [List.length_take, List.length_map, List.length_map]; omega)
    exact ⟨this.1, by simpa using this.2⟩
  · rintro ⟨h1, h2⟩
    rw [h1, h2]; rfl
theorem okh_ne {T pre : List (Hd × Int)} {x : Hd × Int} {s : Th} (hn : pre.length < T.length) (hy : T[pre.length] = (s.h, s.x)) :
    (okh T pre = false ∧ okh T (pre ++ [x]) = false) ∨
    (okh T pre = true ∧ ((x.1.slot : Int) == (s.h.slot : Int)) = false ∧ okh T (pre ++ [x]) = false) ∨
    (okh T pre = true ∧ ((x.1.slot : Int) == (s.h.slot : Int)) = true ∧ ((x.1.gen : Int) == (s.h.gen : Int)) = false ∧ okh T (pre ++ [x]) = false) ∨
    (okh T pre = true ∧ ((x.1.slot : Int) == (s.h.slot : Int)) = true ∧ ((x.1.gen : Int) == (s.h.gen : Int)) = true ∧ okh T (pre ++ [x]) = true) := by
  have hs := okh_succ (x := x) hn hy
  obtain ⟨⟨a, b⟩, c⟩ := x
  cases h : okh T pre with
  | false => rw [h] at hs; exact .inl ⟨rfl, hs⟩
  | true =>
    rw [h, Bool.true_and] at hs
    simp only at hs
    cases e1 : ((a : Int) == (s.h.slot : Int)) with
    | false =>
      refine .inr (.inl ⟨rfl, rfl, ?_⟩)
      rw [hs, decide_eq_false_iff_not]
      intro e
      have : s.h.slot = a := by rw [e]
      rw [this] at e1
      simp at e1
    | true =>
      have h1 := eq_of_beq e1
      cases e2 : ((b : Int) == (s.h.gen : Int)) with
      | false =>
        refine .inr (.inr (.inl ⟨rfl, rfl, rfl, ?_⟩))
        rw [hs, decide_eq_false_iff_not]
        intro e
        have : s.h.gen = b := by rw [e]
        rw [this] at e2
        simp at e2
      | true =>
        have h2 := eq_of_beq e2
        refine .inr (.inr (.inr ⟨rfl, rfl, rfl, ?_⟩))
        rw [hs]
        apply decide_eq_true
        obtain ⟨⟨p, q⟩, _, _⟩ := s
        simp only at h1 h2 ⊢
        simp only [Hd.mk.injEq]; omega
def okw (o : Bool) (T pre : List (Hd × Int)) : Bool := o && okv T pre
theorem okw_ne {o : Bool} {T pre : List (Hd × Int)} {x : Hd × Int} {s : Th} (hn : pre.length < T.length) (hy : T[pre.length] = (s.h, s.x)) :
    (okw o T pre = false ∧ okw o T (pre ++ [x]) = false) ∨
    (okw o T pre = true ∧ ((x.1.slot : Int) == (s.h.slot : Int)) = false ∧ okw o T (pre ++ [x]) = false) ∨
    (okw o T pre = true ∧ ((x.1.slot : Int) == (s.h.slot : Int)) = true ∧ ((x.1.gen : Int) == (s.h.gen : Int)) = false ∧ okw o T (pre ++ [x]) = false) ∨
    (okw o T pre = true ∧ ((x.1.slot : Int) == (s.h.slot : Int)) = true ∧ ((x.1.gen : Int) == (s.h.gen : Int)) = true ∧ okw o T (pre ++ [x]) = (x.2 == s.x)) := by
  unfold okw
  cases o with
  | false => exact .inl ⟨rfl, rfl⟩
  | true =>
    simp only [Bool.true_and]
    exact ok_ne hn hy
theorem okw_all (o : Bool) (T : List (Hd × Int)) : okw o T T = o := by unfold okw; rw [okv_all]; simp
theorem okw_pre {o : Bool} {T pre : List (Hd × Int)} (h : pre <+: T) : okw o T pre = o := by unfold okw; rw [okv_pre h]; simp
theorem okw_nil (o : Bool) (T : List (Hd × Int)) : okw o T [] = o := by unfold okw; rw [okv_nil]; simp
/-- The second loop. -/
structure I2 (W7 : World) (D bm : Nat) (T pre : List (Hd × Int)) (W : World) : Prop where
  below : Below W7.heap.size W7 W
  ok : Boxed W (W7.heap.size + 1) 4 (.bool (okh T pre))
  m : Boxed W bm 3 (.int .i64 (pre.length : Nat))
  dfr : W.heap[D]? = some (.deferred (some []))
theorem boxed_turn {W W' : World} {row : Option Nat} {b : Nat} {T : TypeId} {v : Value} (h : Boxed W b T v) (hg : W.grownBy W' row) (hr : ∀ r, row = some r → ∃ o : Obj, W.heap[r]? = some o ∧ o.isCells = false) : Boxed W' b T v := by
  refine h.kept hg (fun e => ?_)
  obtain ⟨o, ho, hc⟩ := hr b e.symm
  unfold Boxed at h
  rw [h] at ho; cases ho; cases hc
theorem turn_dfr {W W' : World} {row : Option Nat} {D B : Nat} (h : W.heap[D]? = some (.deferred (some []))) (hg : W.grownBy W' row) (hr : ∀ r, row = some r → B ≤ r ∧ ∃ o : Obj, W.heap[r]? = some o ∧ o.isCells = false) (hD : D < B) : W'.heap[D]? = some (.deferred (some [])) :=
  (hg.block D (Array.getElem?_eq_some_iff.1 h).1 (fun e => by have := (hr D e.symm).1; omega)).trans h
theorem i2_own (W7 : World) (D bm : Nat) (T : List (Hd × Int)) (B : Nat) (hB : W7.heap.size ≤ B) (hD : D < B) : OwnFrom B (I2 W7 D bm T) := by
  intro s W W' row h hg hr
  have hr' : ∀ r, row = some r → ∃ o : Obj, W.heap[r]? = some o ∧ o.isCells = false := fun r e => (hr r e).2
  exact ⟨(ownFrom_below (β := List (Hd × Int)) (Nat.le_refl _) hB) s W W' row h.below hg hr, boxed_turn h.ok hg hr', boxed_turn h.m hg hr', turn_dfr h.dfr hg hr hD⟩
theorem i2_alloc {W7 W : World} {D bm : Nat} {T pre : List (Hd × Int)} (h : I2 W7 D bm T pre W) (o : Obj) : I2 W7 D bm T pre (W.alloc o) := by
  have k := Sug.below_new W o
  exact ⟨h.below.trans (k.mono h.below.size), boxed_below h.ok k, boxed_below h.m k, (k.block D (Array.getElem?_eq_some_iff.1 h.dfr).1).trans h.dfr⟩
/-- The loop within. -/
structure I3 (W7 : World) (D bm bk B : Nat) (Ws : World) (o : Bool) (m : Nat) (T pre : List (Hd × Int)) (W : World) : Prop where
  below : Below W7.heap.size W7 W
  ok : Boxed W (W7.heap.size + 1) 4 (.bool (okw o T pre))
  m : Boxed W bm 3 (.int .i64 (m : Nat))
  k : Boxed W bk 3 (.int .i64 (pre.length : Nat))
  dfr : W.heap[D]? = some (.deferred (some []))
  kept : Kept B Ws W
  from_ : KeepsFrom B Ws W
theorem i3_own (W7 : World) (D bm bk B : Nat) (Ws : World) (o : Bool) (m : Nat) (T : List (Hd × Int)) (C : Nat) (hC : W7.heap.size ≤ C) (hs : Ws.heap.size ≤ C) (hD : D < C) : OwnFrom C (I3 W7 D bm bk B Ws o m T) := by
  intro s W W' row h hg hr
  have hr' : ∀ r, row = some r → ∃ o : Obj, W.heap[r]? = some o ∧ o.isCells = false := fun r e => (hr r e).2
  refine ⟨(ownFrom_below (β := List (Hd × Int)) (Nat.le_refl _) hC) s W W' row h.below hg hr, boxed_turn h.ok hg hr', boxed_turn h.m hg hr', boxed_turn h.k hg hr', turn_dfr h.dfr hg hr hD, ?_, ?_⟩
  · refine ⟨Nat.le_trans h.kept.1 hg.size, fun b p hb hp hpc => ?_⟩
    have h1 := h.kept.2 b p hb hp hpc
    refine (hg.block b (Array.getElem?_eq_some_iff.1 h1).1 (fun e => ?_)).trans h1
    obtain ⟨q, hq, hc⟩ := hr' b e.symm
    rw [h1] at hq; cases hq; rw [hpc] at hc; cases hc
  · refine ⟨Nat.le_trans h.from_.size hg.size, fun b p hb hp hpc => ?_⟩
    have h1 := h.from_.same b p hb hp hpc
    refine (hg.block b (Array.getElem?_eq_some_iff.1 h1).1 (fun e => ?_)).trans h1
    have := (hr b e.symm).1
    have := (Array.getElem?_eq_some_iff.1 hp).1
    omega
theorem i3_alloc {W7 W Ws : World} {D bm bk B : Nat} {o : Bool} {m : Nat} {T pre : List (Hd × Int)} (h : I3 W7 D bm bk B Ws o m T pre W) (p : Obj) : I3 W7 D bm bk B Ws o m T pre (W.alloc p) := by
  have k := Sug.below_new W p
  exact ⟨h.below.trans (k.mono h.below.size), boxed_below h.ok k, boxed_below h.m k, boxed_below h.k k, (k.block D (Array.getElem?_eq_some_iff.1 h.dfr).1).trans h.dfr, kept_t h.kept (kept_alloc W p), h.from_.trans ((KeepsOthers.alloc W p).from _)⟩
theorem dfr_wrote {W : World} {D b c : Nat} {T U : TypeId} {v u v' u' : Value} (hd : W.heap[D]? = some (.deferred (some []))) (hb : Boxed W b T v) (hc : Boxed W c U u) : ((W.setCell ⟨c, 0, none⟩ u').setCell ⟨b, 0, none⟩ v').drew.heap[D]? = some (.deferred (some [])) := by
  have n1 : D ≠ b := fun e => by unfold Boxed at hb; rw [← e, hd] at hb; cases hb
  have n2 : D ≠ c := fun e => by unfold Boxed at hc; rw [← e, hd] at hc; cases hc
  exact (sc_other (w := W.setCell ⟨c, 0, none⟩ u') n1).trans ((sc_other n2).trans hd)
/-- The loop within, at its start. -/
theorem i3_start {W7 W W19 : World} {D bm B : Nat} {o : Bool} {m : Nat} {T : List (Hd × Int)} {vv : Value} (h : Wrote B W7 bm (W7.heap.size + 1) (.int .i64 (m : Nat)) (.bool o) 3 4 W W19) (hd : W19.heap[D]? = some (.deferred (some []))) :
    I3 W7 D bm W19.heap.size B W o m T [] ((W19.alloc (.cells #[.int .i64 0] 3)).alloc (.cells #[vv] 25)) := by
  have k1 := Sug.below_new W19 (.cells #[.int .i64 0] 3)
  have k2 := Sug.below_new (W19.alloc (.cells #[.int .i64 0] 3)) (.cells #[vv] 25)
  have k := k1.trans (k2.mono k1.size)
  refine ⟨h.below.trans (k.mono h.below.size), by rw [okw_nil]; exact boxed_below h.ok k, boxed_below h.n k, boxed_below (Boxed.new W19 3 (.int .i64 0)) k2, (k.block D (Array.getElem?_eq_some_iff.1 hd).1).trans hd, kept_t h.kept (kept_t (kept_alloc _ _) (kept_alloc _ _)), (h.from_.trans ((KeepsOthers.alloc _ _).from _)).trans ((KeepsOthers.alloc _ _).from _)⟩
/-- The loop within is over. -/
structure Fin3 (W7 : World) (D bm bk B : Nat) (Ws : World) (o : Bool) (m n : Nat) (W : World) : Prop where
  below : Below W7.heap.size W7 W
  ok : Boxed W (W7.heap.size + 1) 4 (.bool o)
  mb : Boxed W bm 3 (.int .i64 (m : Nat))
  k : ∃ kk : Nat, Boxed W bk 3 (.int .i64 kk) ∧ (kk = n ∨ 2 < m)
  dfr : W.heap[D]? = some (.deferred (some []))
  kept : Kept B Ws W
  from_ : KeepsFrom B Ws W
theorem fin3_done {W7 Ws W : World} {D bm bk B : Nat} {o : Bool} {m n : Nat} {T : List (Hd × Int)} (h : I3 W7 D bm bk B Ws o m T T W) (hn : T.length = n) : Fin3 W7 D bm bk B Ws o m n W :=
  ⟨h.below, by have := h.ok; rw [okw_all] at this; exact this, h.m, ⟨_, h.k, .inl hn⟩, h.dfr, h.kept, h.from_⟩
theorem fin3_stop {W7 Ws W : World} {D bm bk B : Nat} {o : Bool} {m n : Nat} {T pre : List (Hd × Int)} (h : I3 W7 D bm bk B Ws o m T pre W) (hp : pre <+: T) (hm : 2 < m) : Fin3 W7 D bm bk B Ws o m n W :=
  ⟨h.below, by have := h.ok; rw [okw_pre hp] at this; exact this, h.m, ⟨_, h.k, .inr hm⟩, h.dfr, h.kept, h.from_⟩
theorem x3_own (W7 : World) (D bm bk B : Nat) (Ws : World) (o : Bool) (m : Nat) (T : List (Hd × Int)) (C : Nat) (hC : W7.heap.size ≤ C) (hs : Ws.heap.size ≤ C) (hD : D < C) : OwnFrom C (fun pre W => I3 W7 D bm bk B Ws o m T pre W ∧ 2 < m) :=
  fun s W W' row h hg hr => ⟨i3_own W7 D bm bk B Ws o m T C hC hs hD s W W' row h.1 hg hr, h.2⟩
theorem kept_set_new {B : Nat} {Ws W : World} {b : Nat} {u : Value} (h : Kept B Ws W) (hb : b < B ∨ Ws.heap.size ≤ b) : Kept B Ws (W.setCell ⟨b, 0, none⟩ u) :=
  ⟨Nat.le_trans h.1 ((Below.refl 0 W).setCell (p := ⟨b, 0, none⟩) (Nat.zero_le _) u).size, fun c o hc ho hoc => (sc_other (by have := (Array.getElem?_eq_some_iff.1 ho).1; omega)).trans (h.2 c o hc ho hoc)⟩
theorem i3_next {W7 W Ws : World} {D bm bk B C : Nat} {o o3 : Bool} {m : Nat} {T pre : List (Hd × Int)} {x : Hd × Int} (h : I3 W7 D bm bk B Ws o m T pre W) (n1 : bk ≠ W7.heap.size + 1) (n2 : bm ≠ bk) (n3 : bm ≠ W7.heap.size + 1) (hB : W7.heap.size + 1 < B) (hk : Ws.heap.size ≤ bk) (h7 : W7.heap.size ≤ bk) (c1 : bk < C) (c2 : W7.heap.size + 1 < C) (ho : okw o T (pre ++ [x]) = o3) :
    KeepsFrom C W ((W.setCell ⟨W7.heap.size + 1, 0, none⟩ (.bool o3)).setCell ⟨bk, 0, none⟩ (.int .i64 ((pre.length : Int) + 1))).drew ∧ Kept C W ((W.setCell ⟨W7.heap.size + 1, 0, none⟩ (.bool o3)).setCell ⟨bk, 0, none⟩ (.int .i64 ((pre.length : Int) + 1))).drew ∧
    I3 W7 D bm bk B Ws o m T (pre ++ [x]) ((W.setCell ⟨W7.heap.size + 1, 0, none⟩ (.bool o3)).setCell ⟨bk, 0, none⟩ (.int .i64 ((pre.length : Int) + 1))).drew := by
  have hw := wrote_two (B := C) (u := .bool o3) (v := .int .i64 ((pre.length : Int) + 1)) h.below h.k h.ok n1 h7 (by omega) c1 c2
  refine ⟨hw.from_, hw.kept, hw.below, by rw [ho]; exact hw.ok, ?_, ?_, dfr_wrote h.dfr h.k h.ok, ?_, ?_⟩
  · exact boxed_other (boxed_other (W := W) h.m n3) n2
  · have e : (((pre ++ [x]).length : Nat) : Int) = (pre.length : Int) + 1 := by simp
    rw [e]; exact hw.n
  · exact kept_set_new (kept_set_new h.kept (.inl hB)) (.inr hk)
  · exact h.from_.trans ((((KeepsOthers.setCell W _ _).trans (KeepsOthers.setCell _ _ _)).trans (KeepsOthers.drew _)).from _)
/-- Behind the loop within. -/
theorem i2_next {W7 W W3 : World} {D bm bk B n : Nat} {T pre : List (Hd × Int)} {x : Hd × Int} (h : Fin3 W7 D bm bk B W (okh T (pre ++ [x])) (pre.length + 1) n W3) (n3 : bm ≠ W7.heap.size + 1) (hB : W7.heap.size + 1 < B) {o : Bool} (ho : okh T (pre ++ [x]) = o) :
    KeepsFrom B W (W3.setCell ⟨W7.heap.size + 1, 0, none⟩ (.bool o)) ∧ Kept B W (W3.setCell ⟨W7.heap.size + 1, 0, none⟩ (.bool o)) ∧ I2 W7 D bm T (pre ++ [x]) (W3.setCell ⟨W7.heap.size + 1, 0, none⟩ (.bool o)) := by
  refine ⟨h.from_.trans ((KeepsOthers.setCell W3 _ _).from _), kept_set_new h.kept (.inl hB), ?_, ?_, ?_, ?_⟩
  · exact h.below.setCell (p := ⟨W7.heap.size + 1, 0, none⟩) (Nat.le_succ _) _
  · rw [ho]; exact boxed_set h.ok
  · have e : (pre ++ [x]).length = pre.length + 1 := by simp
    rw [e]; exact boxed_other h.mb n3
  · have hk := h.ok
    exact (sc_other (fun e => by unfold Boxed at hk; rw [← e, h.dfr] at hk; cases hk)).trans h.dfr
end Go.Proofs.Ytijlnlcjlkanaaa.Smo
