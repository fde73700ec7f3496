/- A region that draws its order: its first n operations only read (in a class of worlds), the rest come one behind the other: one walk of the text's order serves every order. -/
import Derived.StillTail
import Derived.Deep.Quiet
import Derived.Lib.QuietBelow
import Derived.BigQuiet
import Derived.KernelRfl
set_option linter.unusedVariables false
namespace Go.Proofs.YtgodeffkboihlaaGreatDoor.Drw
open Go.RowKit Go.Sort

section
variable {P : Program} {O : Array Oper} {md : Region.Mode} {C : World → Prop} {n : Nat}
/-- The first n operations alone. -/
def hd (O : Array Oper) (n : Nat) : Array Oper := (O.toList.take n).toArray
theorem hd_get (i : Nat) : (hd O n)[i]? = if i < n then O[i]? else none := by
  unfold hd
  rw [List.getElem?_toArray, List.getElem?_take, Array.getElem?_toList]
theorem hd_size (hn : n ≤ O.size) : (hd O n).size = n := by
  unfold hd; simp; omega
/-- Each operation of the head waits for none behind it; its guard stands ahead of it. -/
def backB (O : Array Oper) (n : Nat) : Bool :=
  (List.range n).all fun i => match O[i]? with
    | some o => o.after.all (fun e => decide (e.on < i)) && (match o.guard with | none => true | some (j, _) => decide (j < n))
    | none => false
/-- Each operation behind the n-th waits for one at or behind the n-th. -/
def downB (md : Region.Mode) (O : Array Oper) (n : Nat) : Bool :=
  (List.range O.size).all fun t => decide (t ≤ n) || (List.range t).any fun s => decide (n ≤ s) && Region.waitsFor md O t s
/-- Some operation lacks yet. -/
def fullB (md : Region.Mode) (O : Array Oper) (n : Nat) : Bool :=
  Region.lexB md (hd O n) && decide (n < O.size) && Region.sinkB md O n && downB md O n && backB O n && Region.seqB md O (O.size - n) n (Array.replicate n true ++ Array.replicate (O.size - n) false)
theorem no_tail {L : Array Bool} (hs : Region.sinkB md O n = true) (hd : downB md O n = true) (hn : n < O.size) (inv : HeadInv md O n L) {i : Nat} (hi : i < n) (hun : L.getD i true = false) : ∀ t, n ≤ t → t ∉ Region.ready md O L := by
  have hN : ∀ (d i : Nat), n - i = d → i < n → L.getD i true = false → n ∉ Region.ready md O L := by
    intro d
    induction d using Nat.strongRecOn with
    | _ d ih =>
      intro i hdd hi hun hr
      have h1 := List.all_eq_true.1 hs i (List.mem_range.2 hi)
      obtain ⟨j, hj, hj2⟩ := List.any_eq_true.1 h1
      simp only [Bool.and_eq_true, decide_eq_true_eq] at hj2
      obtain ⟨oj, hoj, e, he, hb, hon⟩ := Region.waitsFor_spec hj2.2
      have hjle : j ≤ n := by have := List.mem_range.1 hj; omega
      by_cases hjn : j = n
      · subst hjn
        obtain ⟨_, on, hon', hall⟩ := mem_ready.1 hr
        have hoo : oj = on := Option.some.inj (hoj.symm.trans hon')
        subst hoo
        have := hall e he hb
        rw [hon, getD_both hun] at this
        cases this
      · cases hl : L.getD j false with
        | true =>
          have := inv.closed j oj hoj hl e he hb
          rw [hon, getD_both hun] at this
          cases this
        | false =>
          have hjs : j < L.size := by rw [inv.size]; omega
          exact ih (n - j) (by omega) j rfl (by omega) (getD_in hjs hl) hr
  intro t ht hr
  by_cases htn : t = n
  · subst htn; exact hN _ i rfl hi hun hr
  · obtain ⟨_, ot, hot, hall⟩ := mem_ready.1 hr
    have htl : t < O.size := (Array.getElem?_eq_some_iff.1 hot).1
    have h1 := List.all_eq_true.1 hd t (List.mem_range.2 htl)
    simp only [Bool.or_eq_true, decide_eq_true_eq] at h1
    rcases h1 with h1 | h1
    · omega
    · obtain ⟨s, hs1, hs2⟩ := List.any_eq_true.1 h1
      simp only [Bool.and_eq_true, decide_eq_true_eq] at hs2
      obtain ⟨o', ho', e, he, hb, hon⟩ := Region.waitsFor_spec hs2.2
      obtain rfl : o' = ot := Option.some.inj (ho'.symm.trans hot)
      have h2 := hall e he hb
      have h3 := inv.tail s hs2.1 (by have := List.mem_range.1 hs1; omega)
      rw [hon, getD_both h3] at h2
      cases h2
theorem wanted_hd {o : Oper} {i : Nat} (hb : backB O n = true) (hi : i < n) (ho : O[i]? = some o) (tmps : Array Value) : Region.wanted o (yielded (hd O n) tmps) = Region.wanted o (yielded O tmps) := by
  have h1 := List.all_eq_true.1 hb i (List.mem_range.2 hi)
  rw [ho] at h1
  simp only [Bool.and_eq_true] at h1
  unfold Region.wanted
  cases hg : o.guard with
  | none => rfl
  | some x =>
    obtain ⟨j, b⟩ := x
    have h2 := h1.2
    rw [hg] at h2
    have hj : j < n := by simpa using h2
    have : (hd O n)[j]? = O[j]? := by rw [hd_get, if_pos hj]
    simp only [yielded, this]
theorem wpOp_of_hd {i : Nat} {a : Act} {K : Act → Prop} {K' : Act → World → Prop} {Q : Exit → Act → World → Prop} {w : World} (hb : backB O n = true) (hi : i < n) (hC : C w) (h : ∀ a w', C w' → K a → K' a w') (hh : qOp P (hd O n) C i K a) : wpOp P O Q i K' a w := by
  unfold qOp at hh
  unfold wpOp
  rw [hd_get, if_pos hi] at hh
  cases ho : O[i]? with
  | none => rw [ho] at hh; exact h _ _ hC hh
  | some o =>
    rw [ho] at hh
    simp only at hh ⊢
    rw [wanted_hd hb hi ho] at hh
    split
    · rename_i hw; simp only [hw, if_true] at hh; exact .inl (Oper.wp_of_quiet hC h hh)
    · rename_i hw; simp only [hw] at hh; exact h _ _ hC hh
/-- How the lists of what has been carried out hang together. -/
abbrev long (Lh : Array Bool) (g : Nat) : Array Bool := Lh ++ Array.replicate g false
theorem long_lt {Lh : Array Bool} {g i : Nat} (h : i < Lh.size) (d : Bool) : (long Lh g).getD i d = Lh.getD i d := by
  simp [Array.getElem?_append, h]
theorem long_ge {Lh : Array Bool} {g i : Nat} (h : Lh.size ≤ i) : (long Lh g).getD i false = false := by
  simp [Array.getElem?_append, show ¬ i < Lh.size by omega, Array.getElem?_replicate]
  split <;> rfl
theorem long_set {Lh : Array Bool} {g i : Nat} (h : i < Lh.size) : (long Lh g).setIfInBounds i true = long (Lh.setIfInBounds i true) g := by
  apply Array.ext_getElem?
  intro j
  simp only [Array.getElem?_setIfInBounds, Array.getElem?_append, Array.size_setIfInBounds, Array.size_append, Array.size_replicate]
  by_cases hij : i = j
  · subst hij; simp [h]; omega
  · simp [hij]
theorem count_set : ∀ (l : List Bool) (i : Nat), l[i]? = some false → (l.set i true).count false + 1 = l.count false
  | [], i, h => by simp at h
  | b :: l, 0, h => by
    simp only [List.getElem?_cons_zero, Option.some.injEq] at h
    subst h; simp
  | b :: l, i + 1, h => by
    simp only [List.getElem?_cons_succ] at h
    have := count_set l i h
    simp only [List.set_cons_succ, List.count_cons]
    omega
theorem all_true : ∀ (l : List Bool), l.count false = 0 → l = List.replicate l.length true
  | [], _ => rfl
  | true :: l, h => by
    have := all_true l (by simpa using h)
    rw [List.length_cons, List.replicate_succ, ← this]
  | false :: l, h => by simp at h
theorem exists_first : ∀ (l : List Bool), l.count false ≠ 0 → ∃ i : Nat, l[i]? = some false ∧ ∀ j, j < i → l[j]? = some true
  | [], h => by simp at h
  | false :: l, _ => ⟨0, rfl, fun j hj => absurd hj (by omega)⟩
  | true :: l, h => by
    obtain ⟨i, h1, h2⟩ := exists_first l (by simpa using h)
    refine ⟨i + 1, h1, fun j hj => ?_⟩
    cases j with
    | zero => rfl
    | succ j => exact h2 j (by omega)
theorem any_of_head {Q : Exit → Act → World → Prop} (hn : n < O.size) (hs : Region.sinkB md O n = true) (hdn : downB md O n = true) (hb : backB O n = true) :
    ∀ (f : Nat) (Lh : Array Bool) (a : Act) (w : World), C w → Lh.size = n → HeadInv md O n (long Lh (O.size - n)) → Lh.toList.count false = f →
      wpAnyQ P md (hd O n) C (fun a' => ∀ w', C w' → wpAny P md O Q (O.size - n) (Array.replicate n true ++ Array.replicate (O.size - n) false) a' w') f Lh a →
      wpAny P md O Q (f + (O.size - n)) (long Lh (O.size - n)) a w
  | 0, Lh, a, w, hC, hz, inv, hc, h => by
    have e : Lh = Array.replicate n true := by
      rw [← Array.toList_inj, all_true _ hc]; simp [hz]
    rw [Nat.zero_add, e]
    exact h.2 w hC
  | f + 1, Lh, a, w, hC, hz, inv, hc, h => by
    obtain ⟨i, hi0, hi1⟩ := exists_first Lh.toList (by omega)
    have hin : i < n := by
      rw [← hz]
      have := (List.getElem?_eq_some_iff.1 hi0).1
      simpa using this
    have hiA : Lh[i]? = some false := by simpa using hi0
    have hun : (long Lh (O.size - n)).getD i true = false := by rw [long_lt (by omega)]; simp [Array.getD_eq_getD_getElem?, hiA]
    have hrd : ∀ k, k ∈ Region.ready md O (long Lh (O.size - n)) → k < n := fun k hk => by
      rcases Nat.lt_or_ge k n with h' | h'
      · exact h'
      · exact absurd hk (no_tail hs hdn hn inv hin hun k h')
    rw [show f + 1 + (O.size - n) = (f + (O.size - n)) + 1 by omega]
    refine ⟨fun h0 => ?_, fun k hk => ?_⟩
    · exfalso
      have hmem : i ∈ Region.ready md O (long Lh (O.size - n)) := by
        refine mem_ready.2 ⟨hun, O[i], Array.getElem?_eq_getElem (by omega), fun e he hbd => ?_⟩
        have h1 := List.all_eq_true.1 hb i (List.mem_range.2 hin)
        rw [Array.getElem?_eq_getElem (show i < O.size by omega)] at h1
        simp only [Bool.and_eq_true] at h1
        have h2 := h1.1
        rw [Array.all_eq_true_iff_forall_mem] at h2
        have h3 : e.on < i := by simpa using h2 e he
        rw [long_lt (by omega)]
        have h4 := hi1 e.on h3
        have h5 : Lh[e.on]? = some true := by simpa using h4
        simp [Array.getD_eq_getD_getElem?, h5]
      rw [h0] at hmem
      cases hmem
    · have hkn := hrd k hk
      obtain ⟨hku, ok, hok, hall⟩ := mem_ready.1 hk
      have hkL : Lh.getD k true = false := by rw [← long_lt (g := O.size - n) (by omega)]; exact hku
      have hkr : k ∈ Region.ready md (hd O n) Lh := by
        refine mem_ready.2 ⟨hkL, ok, by rw [hd_get, if_pos hkn]; exact hok, fun e he hbd => ?_⟩
        have h1 := hall e he hbd
        rcases Nat.lt_or_ge e.on n with h' | h'
        · rwa [long_lt (by omega)] at h1
        · rw [long_ge (by omega)] at h1; cases h1
      have h1 := h.2 k hkr
      refine wpOp_of_hd hb hkn hC (fun a' w' hw' h2 => ?_) h1
      rw [long_set (by omega)]
      have hkA : Lh.toList[k]? = some false := by
        have : k < Lh.size := by omega
        simp [Array.getD_eq_getD_getElem?, this] at hkL
        simp [this, hkL]
      refine any_of_head hn hs hdn hb f _ a' w' hw' (by simpa using hz) ?_ ?_ h2
      · rw [← long_set (by omega)]; exact inv.set hk hkn
      · have := count_set _ _ hkA
        rw [Array.toList_setIfInBounds]; omega
theorem wp_region_tail {id : Nat} {Q : Exit → Act → World → Prop} {a : Act} {w : World} {l : List Oper} (n : Nat) (hm : P.follows .mixedOrders = true) (hB : fullB .any l.toArray n = true) (hC : C { w with drawn := w.drawn + 1 })
    (h : wpQuiet P (l.take n).toArray C (fun a' => ∀ w', C w' → wpList P l.toArray Q (l.drop n) a' w') (l.take n) a) : (Code.region id l.toArray true).wp P Q a w := by
  simp only [fullB, Bool.and_eq_true, decide_eq_true_eq] at hB
  obtain ⟨⟨⟨⟨⟨hlex, hn⟩, hs⟩, hdn⟩, hb⟩, hq⟩ := hB
  have hn' : n < l.length := by simpa using hn
  have hH : hd l.toArray n = (l.take n).toArray := by unfold hd; rfl
  have hsz : (l.take n).length = n := by simp; omega
  simp only [Region.lexB, Bool.and_eq_true] at hlex
  have hdl : (l.drop n).length = l.toArray.size - n := by simp
  have h1 : wpQuiet P (l.take n).toArray C (fun a' => ∀ w', C w' → wpAny P .any l.toArray Q (l.toArray.size - n) (Array.replicate n true ++ Array.replicate (l.toArray.size - n) false) a' w') (l.take n) a := by
    have mono : ∀ (m : List Oper) (a : Act), wpQuiet P (l.take n).toArray C (fun a' => ∀ w', C w' → wpList P l.toArray Q (l.drop n) a' w') m a →
        wpQuiet P (l.take n).toArray C (fun a' => ∀ w', C w' → wpAny P .any l.toArray Q (l.toArray.size - n) (Array.replicate n true ++ Array.replicate (l.toArray.size - n) false) a' w') m a := by
      intro m
      induction m with
      | nil =>
        intro a h w' hw'
        have := wpAny_of_seq (md := .any) (Q' := Q) (l.drop n) n (Array.replicate n true ++ Array.replicate (l.toArray.size - n) false) a w' (fun j => by simp [List.getElem?_drop]) (by rw [hdl]; exact hq) (h w' hw')
        rwa [hdl] at this
      | cons o m ih =>
        intro a h
        unfold wpQuiet at h ⊢
        split
        · rename_i hw; rw [if_pos hw] at h; exact Oper.quiet_mono (fun a => ih a) h
        · rename_i hw; rw [if_neg hw] at h; exact ih _ h
    exact mono _ _ h
  rw [hH] at hlex
  have h2 := wpAnyQ_lex (C := C) (md := .any) hlex.1 (l.take n) 0 (Array.replicate (l.take n).toArray.size false) a (by simp) (by simpa using hlex.2) h1
  rw [hsz] at h2
  have hrep : Array.replicate (l.take n).toArray.size false = Array.replicate n false := by rw [List.size_toArray, hsz]
  rw [hrep, ← hH] at h2
  have inv0 : HeadInv .any l.toArray n (long (Array.replicate n false) (l.toArray.size - n)) := by
    have e : long (Array.replicate n false) (l.toArray.size - n) = Array.replicate l.toArray.size false := by
      show Array.replicate n false ++ _ = _
      rw [Array.replicate_append_replicate]; congr 1; omega
    rw [e]
    exact ⟨by simp, fun j oj _ hl => (by rw [getD_replicate_false] at hl; cases hl), fun t _ ht => getD_in (by simpa using ht) (getD_replicate_false _ _)⟩
  have h3 := any_of_head (Q := Q) hn hs hdn hb n (Array.replicate n false) a _ hC (by simp) inv0 (by simp) h2
  refine wp_region_any hm ?_
  have e : long (Array.replicate n false) (l.toArray.size - n) = Array.replicate l.toArray.size false := by
    show Array.replicate n false ++ _ = _
    rw [Array.replicate_append_replicate]; congr 1; omega
  rw [e, show n + (l.toArray.size - n) = l.toArray.size by omega] at h3
  exact h3
end
/-- A world that has grown since w. -/
abbrev Cls (w : World) : World → Prop := fun w' => ∃ p : Regrown, w' = grow (redrawn w p.d) p.os
theorem cls_start (w : World) : Cls w { w with drawn := w.drawn + 1 } := ⟨⟨w.drawn + 1, #[]⟩, by rw [grow_empty]; rfl⟩
theorem cls_below {w w' : World} (h : Cls w w') : Below w.heap.size w w' := by
  obtain ⟨p, rfl⟩ := h; exact below_regrown w p.d p.os
end Go.Proofs.YtgodeffkboihlaaGreatDoor.Drw
