/- Maps that the call makes: keyed by a handle, by an int; held as the list of their entries. -/
import Derived.Test.YtclcbiiijoeplaaDoorRsl
import Derived.Test.YtclcbiiijoeplaaDoorRow
import Derived.KernelRfl
set_option linter.unusedVariables false
set_option linter.unusedSimpArgs false
namespace Go.Proofs.YtclcbiiijoeplaaDoor.Rmp
open Go.RowKit Rsl Rowz

abbrev hkey (s g : Int) : Value := .agg #[.int .u32 s, .int .u32 g]
theorem equalH (a b c d : Int) (w : World) : (Op.equal 49 (hkey a b) (hkey c d)).run Tryd.prog w = .ok (a == c && b == d) w := by
  by_cases h1 : a = c <;> by_cases h2 : b = d <;> simp [Op.equal, Op.maxDepth, go_sem, h1, h2]
theorem checkH (e : Bool) (a b : Int) (w : World) : (Instr.checkKey e 10000 49 (hkey a b)).run Tryd.prog w = .ok () w := by kernel_rfl
theorem checkI (e : Bool) (a : Int) (w : World) : (Instr.checkKey e 10000 3 (.int .i64 a)).run Tryd.prog w = .ok () w := by kernel_rfl
abbrev HM := List ((Int × Int) × Int)
def findH (m : HM) (s g : Int) : Option Int := (m.find? fun p => s == p.1.1 && g == p.1.2).map (·.2)
def pairs (es : List MapEntry) : List (Value × Value) := es.map fun e => (e.key, e.val)
def hpairs (m : HM) : List (Value × Value) := m.map fun p => (hkey p.1.1 p.1.2, .int .i64 p.2)
def MapH (b : Nat) (m : HM) (w : World) : Prop := ∃ es clock, w.heap[b]? = some (.map es clock) ∧ pairs es.toList = hpairs m
theorem askH (s g : Int) (w : World) : ∀ (es : List MapEntry) (m : HM) (i : Nat), pairs es = hpairs m → ∃ r, (Instr.findAsking 49 (hkey s g) es i).run Tryd.prog w = .ok r w ∧ r.map (·.2) = (findH m s g).map (Value.int .i64)
  | [], m, i, h => by
    cases m with
    | nil => exact ⟨none, rfl, rfl⟩
    | cons p m => simp [pairs, hpairs] at h
  | e :: es, [], i, h => by simp [pairs, hpairs] at h
  | e :: es, p :: m, i, h => by
    simp only [pairs, hpairs, List.map_cons, List.cons.injEq, Prod.mk.injEq] at h
    obtain ⟨⟨h1, h2⟩, h3⟩ := h
    obtain ⟨r, hr, hr2⟩ := askH s g w es m (i + 1) h3
    have he := equalH s g p.1.1 p.1.2 w
    cases hk : (s == p.1.1 && g == p.1.2) with
    | true =>
      rw [hk] at he
      refine ⟨some (i, e.val), ?_, ?_⟩
      · simp [Instr.findAsking, Sem.run_bind, h1, he, Result.andThen]
      · simp [findH, List.find?_cons, hk, h2]
    | false =>
      rw [hk] at he
      refine ⟨r, ?_, ?_⟩
      · simp [Instr.findAsking, Sem.run_bind, h1, he, Result.andThen, hr]
      · rw [hr2]; simp [findH, List.find?_cons, hk]
theorem nowH (s g : Int) (fs : Array Field) (es : List MapEntry) (i : Nat) : Instr.findNow (.struct fs) (hkey s g) es i = if es = [] then some none else none := by
  cases es with
  | nil => rfl
  | cons e es => simp [Instr.findNow, Instr.sameNow]
theorem findKeyH (s g : Int) (w : World) (es : List MapEntry) (m : HM) (h : pairs es = hpairs m) : ∃ r, (Instr.findKey 49 (hkey s g) es).run Tryd.prog w = .ok r w ∧ r.map (·.2) = (findH m s g).map (Value.int .i64) := by
  have hu := run_underlying (w := w) Tryd.underlying49
  cases es with
  | nil =>
    cases m with
    | nil => exact ⟨none, by simp [Instr.findKey, Sem.run_bind, hu, Result.andThen, Instr.findNow], rfl⟩
    | cons p m => simp [pairs, hpairs] at h
  | cons e es =>
    obtain ⟨r, hr, hr2⟩ := askH s g w (e :: es) m 0 h
    exact ⟨r, by simp only [Instr.findKey, Sem.run_bind, hu, Result.andThen, nowH]; simpa using hr, hr2⟩
theorem lookH {b : Nat} {m : HM} {w : World} (h : MapH b m w) (s g : Int) : (Instr.lookup 79 (.map (some b)) (hkey s g) true).run Tryd.prog w = .ok (.tuple #[.int .i64 ((findH m s g).getD 0), .bool (findH m s g).isSome]) w := by
  obtain ⟨es, clock, hb, hp⟩ := h
  have hu := run_underlying (w := w) Tryd.underlying79
  obtain ⟨r, hr, hr2⟩ := findKeyH s g w es.toList m hp
  have hc := checkH es.isEmpty s g w
  have hg : (getObj b).run Tryd.prog w = .ok (.map es clock) w := by simp [getObj, Sem.run, hb]
  have hz : (zeroValue 3).run Tryd.prog w = .ok (.int .i64 0) w := by kernel_rfl
  cases hf : findH m s g with
  | none =>
    rw [hf] at hr2
    have : r = none := by cases r with | none => rfl | some x => simp at hr2
    subst this
    simp [Instr.lookup, Sem.run_bind, hu, Result.andThen, hg, hc, hr, hz]
  | some v =>
    rw [hf] at hr2
    obtain ⟨⟨i, u⟩, rfl, hu2⟩ := Option.map_eq_some_iff.1 hr2
    simp only at hu2
    subst hu2
    simp [Instr.lookup, Sem.run_bind, hu, Result.andThen, hg, hc, hr]
theorem lookH1 {b : Nat} {m : HM} {w : World} (h : MapH b m w) (s g : Int) : (Instr.lookup 79 (.map (some b)) (hkey s g) false).run Tryd.prog w = .ok (.int .i64 ((findH m s g).getD 0)) w := by
  obtain ⟨es, clock, hb, hp⟩ := h
  have hu := run_underlying (w := w) Tryd.underlying79
  obtain ⟨r, hr, hr2⟩ := findKeyH s g w es.toList m hp
  have hc := checkH es.isEmpty s g w
  have hg : (getObj b).run Tryd.prog w = .ok (.map es clock) w := by simp [getObj, Sem.run, hb]
  have hz : (zeroValue 3).run Tryd.prog w = .ok (.int .i64 0) w := by kernel_rfl
  cases hf : findH m s g with
  | none =>
    rw [hf] at hr2
    have : r = none := by cases r with | none => rfl | some x => simp at hr2
    subst this
    simp [Instr.lookup, Sem.run_bind, hu, Result.andThen, hg, hc, hr, hz]
  | some v =>
    rw [hf] at hr2
    obtain ⟨⟨i, u⟩, rfl, hu2⟩ := Option.map_eq_some_iff.1 hr2
    simp only at hu2
    subst hu2
    simp [Instr.lookup, Sem.run_bind, hu, Result.andThen, hg, hc, hr]
/-- A block alone turned. -/
def setB (w : World) (b : Nat) (o : Obj) : World := { w with heap := w.heap.setIfInBounds b o }
theorem setB_same {w : World} {b : Nat} {o o' : Obj} (h : w.heap[b]? = some o') : (setB w b o).heap[b]? = some o := by
  have hlt := (Array.getElem?_eq_some_iff.1 h).1
  show (w.heap.setIfInBounds b o)[b]? = _
  rw [Array.getElem?_setIfInBounds_self]; simp [hlt]
theorem setB_other (w : World) {b c : Nat} (o : Obj) (h : c ≠ b) : (setB w b o).heap[c]? = w.heap[c]? := by
  show (w.heap.setIfInBounds b o)[c]? = _
  rw [Array.getElem?_setIfInBounds_ne (Ne.symm h)]
theorem setB_below {B b : Nat} {w0 w : World} (h : Below B w0 w) (hb : B ≤ b) (o : Obj) : Below B w0 (setB w b o) :=
  ⟨h.os, h.tape, h.output, by show _ ≤ (w.heap.setIfInBounds b o).size; rw [Array.size_setIfInBounds]; exact h.size, fun k hk => by rw [setB_other w o (by omega)]; exact h.block k hk⟩
theorem setB_size (w : World) (b : Nat) (o : Obj) : (setB w b o).heap.size = w.heap.size := by show (w.heap.setIfInBounds b o).size = _; rw [Array.size_setIfInBounds]
theorem putH {b : Nat} {m : HM} {w : World} (h : MapH b m w) (s g v : Int) (hn : findH m s g = none) : ∃ o, (Instr.mapUpdate 79 (.map (some b)) (hkey s g) (.int .i64 v)).run Tryd.prog w = .ok () (setB w b o) ∧ MapH b (m ++ [((s, g), v)]) (setB w b o) := by
  obtain ⟨es, clock, hb, hp⟩ := h
  have hu := run_underlying (w := w) Tryd.underlying79
  obtain ⟨r, hr, hr2⟩ := findKeyH s g w es.toList m hp
  have hc := checkH false s g w
  have hg : (getObj b).run Tryd.prog w = .ok (.map es clock) w := by simp [getObj, Sem.run, hb]
  rw [hn] at hr2
  have : r = none := by cases r with | none => rfl | some x => simp at hr2
  subst this
  refine ⟨.map (es.push { key := hkey s g, val := .int .i64 v, born := clock }) (clock + 1), ?_, _, _, setB_same hb, ?_⟩
  · simp [Instr.mapUpdate, Sem.run_bind, hu, Result.andThen, hg, hc, hr, setObj, Sem.run, setB, hb]
  · simp [pairs, hpairs] at hp ⊢; exact hp
theorem MapH.made (w : World) : MapH w.heap.size [] (w.alloc (.map #[] 0)) := ⟨_, _, heap_alloc_new w _, rfl⟩
theorem MapH.kept {b : Nat} {m : HM} {w w' : World} (h : MapH b m w) (hk : w'.heap[b]? = w.heap[b]?) : MapH b m w' := by
  obtain ⟨es, clock, h1, h2⟩ := h
  exact ⟨es, clock, hk.trans h1, h2⟩
theorem MapH.lt {b : Nat} {m : HM} {w : World} (h : MapH b m w) : b < w.heap.size := by
  obtain ⟨es, clock, h1, h2⟩ := h
  exact (Array.getElem?_eq_some_iff.1 h1).1
theorem MapH.below {b B : Nat} {m : HM} {w w' : World} (h : MapH b m w) (hb : Below B w w') (hB : b < B) : MapH b m w' := h.kept (hb.block b hB)
/-! ### Keyed by an int: slices -/
abbrev IM := List (Int × SV)
def findI (m : IM) (k : Int) : Option SV := (m.find? fun p => k == p.1).map (·.2)
def setI : IM → Int → SV → IM
  | [], k, v => [(k, v)]
  | p :: m, k, v => if k == p.1 then (k, v) :: m else p :: setI m k v
theorem setI_cons (p : Int × SV) (m : IM) (k : Int) (v : SV) : setI (p :: m) k v = if k == p.1 then (k, v) :: m else p :: setI m k v := rfl
theorem find_setI (m : IM) (k j : Int) (v : SV) : findI (setI m k v) j = if j = k then some v else findI m j := by
  induction m with
  | nil => by_cases h : j = k <;> simp [setI, findI, h]
  | cons p m ih =>
    unfold setI
    by_cases hk : k = p.1
    · have h1 : (k == p.1) = true := by simpa using hk
      rw [if_pos h1]
      by_cases hj : j = k
      · simp [findI, hj]
      · have h2 : (j == k) = false := by simpa using hj
        have h3 : (j == p.1) = false := by rw [← hk]; exact h2
        simp [findI, List.find?_cons, hj, h2, h3]
    · have h1 : ¬ ((k == p.1) = true) := by simpa using hk
      rw [if_neg h1]
      by_cases hj : j = p.1
      · have h2 : ¬ j = k := fun e => hk (e ▸ hj)
        simp [findI, hj]
        intro e; exact absurd e.symm hk
      · have h2 : (j == p.1) = false := by simpa using hj
        have : findI (p :: setI m k v) j = findI (setI m k v) j := by simp [findI, List.find?_cons, h2]
        rw [this, ih]
        simp [findI, List.find?_cons, h2]
def ipairs (m : IM) : List (Value × Value) := m.map fun p => (.int .i64 p.1, p.2.val)
def MapI (b : Nat) (m : IM) (w : World) : Prop := ∃ es clock, w.heap[b]? = some (.map es clock) ∧ pairs es.toList = ipairs m
theorem MapI.made (w : World) : MapI w.heap.size [] (w.alloc (.map #[] 0)) := ⟨_, _, heap_alloc_new w _, rfl⟩
theorem MapI.kept {b : Nat} {m : IM} {w w' : World} (h : MapI b m w) (hk : w'.heap[b]? = w.heap[b]?) : MapI b m w' := by
  obtain ⟨es, clock, h1, h2⟩ := h
  exact ⟨es, clock, hk.trans h1, h2⟩
theorem MapI.lt {b : Nat} {m : IM} {w : World} (h : MapI b m w) : b < w.heap.size := by
  obtain ⟨es, clock, h1, h2⟩ := h
  exact (Array.getElem?_eq_some_iff.1 h1).1
theorem MapI.below {b B : Nat} {m : IM} {w w' : World} (h : MapI b m w) (hb : Below B w w') (hB : b < B) : MapI b m w' := h.kept (hb.block b hB)
theorem nowI (k : Int) : ∀ (es : List MapEntry) (m : IM) (i : Nat), pairs es = ipairs m →
    (∃ j, Instr.findNow (.int .i64) (.int .i64 k) es i = some (some (i + j, ((findI m k).getD sv0).val)) ∧ (findI m k).isSome = true ∧
      ∀ (v : SV) (es' : List MapEntry), es' = es.modify j (fun e => { e with key := .int .i64 k, val := v.val }) → pairs es' = ipairs (setI m k v) ∧ (es[j]?).map (·.key) = some (.int .i64 k)) ∨
    (Instr.findNow (.int .i64) (.int .i64 k) es i = some none ∧ findI m k = none ∧ ∀ v, setI m k v = m ++ [(k, v)])
  | [], m, i, h => by
    cases m with
    | nil => exact .inr ⟨rfl, rfl, fun v => rfl⟩
    | cons p m => simp [pairs, ipairs] at h
  | e :: es, [], i, h => by simp [pairs, ipairs] at h
  | e :: es, p :: m, i, h => by
    simp only [pairs, ipairs, List.map_cons, List.cons.injEq, Prod.mk.injEq] at h
    obtain ⟨⟨h1, h2⟩, h3⟩ := h
    by_cases hk : k = p.1
    · subst hk
      refine .inl ⟨0, by simp [Instr.findNow, Instr.sameNow, h1, h2, findI], by simp [findI], fun v es' he => ?_⟩
      subst he
      refine ⟨?_, by simp [h1]⟩
      simp only [List.modify_zero_cons, pairs, ipairs, List.map_cons, setI, beq_self_eq_true, if_true, List.cons.injEq, true_and]
      exact h3
    · have hkb : (k == p.1) = false := by simpa using hk
      have hn : Instr.findNow (.int .i64) (.int .i64 k) (e :: es) i = Instr.findNow (.int .i64) (.int .i64 k) es (i + 1) := by
        simp [Instr.findNow, Instr.sameNow, h1, hkb]
      have hf : findI (p :: m) k = findI m k := by simp [findI, List.find?_cons, hkb]
      rcases nowI k es m (i + 1) h3 with ⟨j, a1, a2, a3⟩ | ⟨a1, a2, a3⟩
      · refine .inl ⟨j + 1, by rw [hn, a1, hf]; congr 3; omega, by rw [hf]; exact a2, fun v es' he => ?_⟩
        obtain ⟨b1, b2⟩ := a3 v _ rfl
        subst he
        refine ⟨?_, by simpa using b2⟩
        rw [List.modify_succ_cons]
        have hs : setI (p :: m) k v = p :: setI m k v := by rw [setI_cons, if_neg (by rw [hkb]; decide)]
        rw [hs]
        simp only [pairs, ipairs, List.map_cons, List.cons.injEq, Prod.mk.injEq]
        exact ⟨⟨h1, h2⟩, b1⟩
      · refine .inr ⟨by rw [hn, a1], by rw [hf]; exact a2, fun v => ?_⟩
        have hs : setI (p :: m) k v = p :: setI m k v := by rw [setI_cons, if_neg (by rw [hkb]; decide)]
        rw [hs, a3 v]; rfl
theorem lookI {b : Nat} {m : IM} {w : World} (h : MapI b m w) (k : Int) : (Instr.lookup 81 (.map (some b)) (.int .i64 k) false).run Tryd.prog w = .ok ((findI m k).getD sv0).val w := by
  obtain ⟨es, clock, hb, hp⟩ := h
  have hu := run_underlying (w := w) Tryd.underlying81
  have hu2 := run_underlying (w := w) Tryd.underlying3
  have hc := checkI es.isEmpty k w
  have hg : (getObj b).run Tryd.prog w = .ok (.map es clock) w := by simp [getObj, Sem.run, hb]
  have hz : (zeroValue 45).run Tryd.prog w = .ok (.slice none 0 0) w := by kernel_rfl
  rcases nowI k es.toList m 0 hp with ⟨j, a1, a2, a3⟩ | ⟨a1, a2, a3⟩
  · simp [Instr.lookup, Sem.run_bind, hu, Result.andThen, hg, hc, Instr.findKey, hu2, a1]
  · simp [Instr.lookup, Sem.run_bind, hu, Result.andThen, hg, hc, Instr.findKey, hu2, a1, a2, hz, sv0]
theorem putI {b : Nat} {m : IM} {w : World} (h : MapI b m w) (k : Int) (v : SV) : ∃ o, (Instr.mapUpdate 81 (.map (some b)) (.int .i64 k) v.val).run Tryd.prog w = .ok () (setB w b o) ∧ MapI b (setI m k v) (setB w b o) := by
  obtain ⟨es, clock, hb, hp⟩ := h
  have hu := run_underlying (w := w) Tryd.underlying81
  have hu2 := run_underlying (w := w) Tryd.underlying3
  have hc := checkI false k w
  have hg : (getObj b).run Tryd.prog w = .ok (.map es clock) w := by simp [getObj, Sem.run, hb]
  rcases nowI k es.toList m 0 hp with ⟨j, a1, a2, a3⟩ | ⟨a1, a2, a3⟩
  · obtain ⟨b1, b2⟩ := a3 v _ rfl
    have b2' : (es[j]?).map (·.key) = some (.int .i64 k) := by simpa using b2
    refine ⟨.map (es.modify j fun e => { e with key := .int .i64 k, val := v.val }) clock, ?_, _, _, setB_same hb, ?_⟩
    · have hks : (Instr.keyThatStays (.int .i64 k) (.int .i64 k)).run Tryd.prog w = .ok (.int .i64 k) w := by simp [Instr.keyThatStays, Instr.sameBits]
      simp [Instr.mapUpdate, Sem.run_bind, hu, Result.andThen, hg, hc, Instr.findKey, hu2, a1, b2', hks, setObj, Sem.run, setB, hb]
    · simpa using b1
  · refine ⟨.map (es.push { key := .int .i64 k, val := v.val, born := clock }) (clock + 1), ?_, _, _, setB_same hb, ?_⟩
    · simp [Instr.mapUpdate, Sem.run_bind, hu, Result.andThen, hg, hc, Instr.findKey, hu2, a1, setObj, Sem.run, setB, hb]
    · rw [a3 v]; simp [pairs, ipairs] at hp ⊢; exact hp
end Go.Proofs.YtclcbiiijoeplaaDoor.Rmp
