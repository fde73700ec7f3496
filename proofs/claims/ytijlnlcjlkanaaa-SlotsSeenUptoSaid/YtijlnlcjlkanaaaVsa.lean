/- SlotsSeen's plain law: what a table keeps. -/
import Derived.Test.YtijlnlcjlkanaaaVud
set_option linter.unusedVariables false
namespace Go.Proofs.Ytijlnlcjlkanaaa.Vsa
open Sta (Hd hdE Step)
open Vta Vtb Vtc Vtd Vtg Vte Vtj Vtk Vtl Vtn Vud

/-- What a table keeps: k: no more were taken ever. -/
structure Fine (t : Tab) (k : Nat) : Prop where
  ok : TabOk t k
  lv : ∀ h ∈ t.ord, lives t h = true
  nd : t.ord.Nodup
  m : t.most = 500
  c : t.count ≤ k
theorem Fine.start : Fine ⟨[], 500, 0, 0, []⟩ 0 := ⟨TabOk.new 500 (Nat.le_refl _), fun h hh => (by cases hh), List.nodup_nil, rfl, Nat.le_refl _⟩
theorem Fine.mono {t : Tab} {k k' : Nat} (f : Fine t k) (h : k ≤ k') : Fine t k' :=
  ⟨⟨f.ok.len, f.ok.most, Nat.le_trans f.ok.born h, f.ok.ord, f.ok.count, fun s hs => ⟨Nat.le_trans (f.ok.gen s hs).1 h, Nat.le_trans (f.ok.gen s hs).2 h⟩, f.ok.all⟩, f.lv, f.nd, f.m, Nat.le_trans f.c h⟩
theorem lives_le {t : Tab} {k : Nat} (f : Fine t k) {h : Hd} (hl : lives t h = true) : h.slot ≤ 500 := by
  have h1 := lives_iff.1 hl
  have h2 := f.ok.len
  have h3 := f.m
  omega
/-- A thing taken in: it stands last. -/
theorem Fine.take {t t' : Tab} {k : Nat} {x : Th} {y : Hd} (f : Fine t k) (hk : takeT t x = some (t', y)) :
    Fine t' (k + 1) ∧ tells t' = tells t ++ [(y, x)] ∧ y ∉ t.ord ∧ t'.ord = t.ord ++ [y] := by
  unfold takeT at hk
  obtain ⟨⟨u, i⟩, hr, he⟩ := Option.map_eq_some_iff.1 hk
  simp only [Prod.mk.injEq] at he
  obtain ⟨rfl, rfl⟩ := he
  have r := room_some f.ok hr
  have hy : (⟨i + 1, (u.sl.getD i ⟨0, 0, th0⟩).gen + 1⟩ : Hd) ∉ t.ord := fun hh => by
    have := f.lv _ hh
    rw [← r.lives, lives_iff] at this
    exact this.2.2.1 r.ser
  have ho : (laidIn u i x).ord = t.ord ++ [⟨i + 1, (u.sl.getD i ⟨0, 0, th0⟩).gen + 1⟩] := by show u.ord ++ _ = _; rw [r.ord]
  refine ⟨⟨TabOk.laid f.ok r, ?_, ?_, ?_, ?_⟩, ?_, hy, ho⟩
  · intro h hh
    rw [ho] at hh
    rw [laid_lives r.lt r.ser]
    rcases List.mem_append.1 hh with h1 | h1
    · exact .inr (by rw [r.lives]; exact f.lv h h1)
    · exact .inl (List.mem_singleton.1 h1)
  · rw [ho, List.nodup_append]
    refine ⟨f.nd, by simp, fun a ha b hb => ?_⟩
    rw [List.mem_singleton.1 hb]
    exact fun e => hy (e ▸ ha)
  · show u.most = 500; rw [r.most]; exact f.m
  · show u.count + 1 ≤ _; rw [r.count]; have := f.c; omega
  · unfold tells
    rw [ho, List.map_append]
    congr 1
    · refine List.map_congr_left fun h hh => ?_
      have hl := f.lv h hh
      have hl2 := lives_iff.1 hl
      have hne : h.slot - 1 ≠ i := fun e => by
        have := hl
        rw [← r.lives, lives_iff, e] at this
        exact this.2.2.1 r.ser
      show (h, ((u.sl.set i _).getD (h.slot - 1) ⟨0, 0, th0⟩).thing) = _
      rw [getD_set r.lt, if_neg hne, r.same _ (by omega)]
    · show [(_, ((u.sl.set i _).getD (i + 1 - 1) ⟨0, 0, th0⟩).thing)] = _
      rw [Nat.add_sub_cancel, getD_set r.lt, if_pos rfl]
/-- There is room for one more. -/
theorem Fine.room {t : Tab} {k : Nat} (f : Fine t k) (hk : k < 500) (x : Th) : ∃ t' y, takeT t x = some (t', y) := by
  cases hr : Vtl.room t with
  | none =>
    have := room_none f.ok hr
    have := f.c; have := f.m
    omega
  | some p =>
    unfold takeT
    rw [hr]
    exact ⟨_, _, rfl⟩
theorem Fine.set {t : Tab} {k j : Nat} {x : Th} (f : Fine t k) (hj : j < t.sl.length) : Fine (setIn t j x) k :=
  ⟨TabOk.setIn f.ok hj, fun h hh => by rw [set_lives hj]; exact f.lv h hh, f.nd, f.m, f.c⟩
theorem Fine.free {t : Tab} {k i : Nat} {y : Hd} (f : Fine t k) (hy : lives t y = true) (hi : i < t.ord.length) (h0 : t.ord.getD i ⟨0, 0⟩ = y) : Fine (out t (y.slot - 1) i) k := by
  refine ⟨TabOk.out f.ok hy hi h0, ?_, ?_, f.m, ?_⟩
  · intro h hh
    have hh : h ∈ t.ord.eraseIdx i := hh
    rw [out_lives hy]
    have hm := List.mem_of_mem_eraseIdx hh
    refine ⟨f.lv h hm, fun e => ?_⟩
    rw [e] at hh
    rw [List.mem_eraseIdx_iff_getElem?] at hh
    obtain ⟨j, hj, he⟩ := hh
    have hj2 : j < t.ord.length := (List.getElem?_eq_some_iff.1 he).1
    apply hj
    refine (List.getElem_inj f.nd (h₀ := hj2) (h₁ := hi)).1 ?_
    rw [(List.getElem?_eq_some_iff.1 he).2, ← h0, List.getD_eq_getElem?_getD, List.getElem?_eq_getElem hi]; rfl
  · exact f.nd.eraseIdx i
  · show t.count - 1 ≤ k; have := f.c; omega
/-- What lives stands in the order, somewhere first. -/
theorem Fine.first {t : Tab} {k : Nat} {y : Hd} (f : Fine t k) (hy : lives t y = true) : ∃ i, i < t.ord.length ∧ t.ord.getD i ⟨0, 0⟩ = y ∧ (∀ j, j < i → t.ord.getD j ⟨0, 0⟩ ≠ y) ∧ 1 ≤ t.count := by
  obtain ⟨i, h1, h2, h3⟩ := Sto.first_in (f.ok.all y hy)
  exact ⟨i, h1, h2, h3, by have := f.ok.ord; omega⟩
theorem Fine.small {t : Tab} {k : Nat} (f : Fine t k) (hk : k ≤ 1000000) : Small t := f.ok.small hk
/-- What is told of a table stands in it. -/
theorem Fine.told {t : Tab} {k : Nat} (f : Fine t k) {p : Hd × Th} (hp : p ∈ tells t) : lives t p.1 = true ∧ (t.sl.getD (p.1.slot - 1) ⟨0, 0, th0⟩).thing = p.2 := by
  unfold tells at hp
  obtain ⟨h, hh, rfl⟩ := List.mem_map.1 hp
  exact ⟨f.lv h hh, rfl⟩
open Classical
/-- Is what has come the beginning of what should? -/
noncomputable def okx (T : List (Hd × Th)) (pre : List {p : Hd × Th // p ∈ T}) : Bool := decide (T.attach.take pre.length = pre)
theorem okx_nil (T : List (Hd × Th)) : okx T [] = true := by unfold okx; simp
theorem okx_all (T : List (Hd × Th)) : okx T T.attach = true := by unfold okx; exact decide_eq_true (List.take_of_length_le (Nat.le_refl _))
theorem okx_succ {T : List (Hd × Th)} {pre : List {p : Hd × Th // p ∈ T}} {x : {p : Hd × Th // p ∈ T}} (hn : pre.length < T.length) : okx T (pre ++ [x]) = (okx T pre && decide (T[pre.length] = x.1)) := by
  have hn' : pre.length < T.attach.length := by rw [List.length_attach]; exact hn
  unfold okx
  rw [Bool.eq_iff_iff]
  simp only [decide_eq_true_eq, Bool.and_eq_true, List.length_append, List.length_cons, List.length_nil]
  rw [List.take_succ_eq_append_getElem hn', List.getElem_attach]
  constructor
  · intro h
    have := List.append_inj h (by rw [List.length_take, List.length_attach]; omega)
    refine ⟨this.1, ?_⟩
    have h2 := this.2
    rw [List.cons.injEq] at h2
    rw [← h2.1]
  · rintro ⟨h1, h2⟩
    rw [h1]
    congr 2
    exact Subtype.ext h2
/-- A round of the first range: how its test comes out. -/
theorem okx_ne {T : List (Hd × Th)} (hnd : (T.map (·.1)).Nodup) {pre : List {p : Hd × Th // p ∈ T}} {x : {p : Hd × Th // p ∈ T}} {s : Hd} (hn : pre.length < T.length) (hy : (T[pre.length]).1 = s) :
    (okx T pre = false ∧ okx T (pre ++ [x]) = false) ∨
    (okx T pre = true ∧ ((x.1.1.slot : Int) == (s.slot : Int)) = false ∧ okx T (pre ++ [x]) = false) ∨
    (okx T pre = true ∧ ((x.1.1.slot : Int) == (s.slot : Int)) = true ∧ ((x.1.1.gen : Int) == (s.gen : Int)) = false ∧ okx T (pre ++ [x]) = false) ∨
    (okx T pre = true ∧ x.1 = T[pre.length] ∧ okx T (pre ++ [x]) = true) := by
  have hs := okx_succ (x := x) hn
  obtain ⟨⟨⟨a, b⟩, c⟩, hx⟩ := x
  cases h : okx T pre with
  | false => rw [h] at hs; exact .inl ⟨rfl, hs⟩
  | true =>
    rw [h, Bool.true_and] at hs
    dsimp only at hs ⊢
    have bad : (⟨a, b⟩ : Hd) ≠ s → okx T (pre ++ [⟨(⟨a, b⟩, c), hx⟩]) = false := fun hne => by
      rw [hs, decide_eq_false_iff_not]
      intro e
      exact hne (by rw [← hy, e])
    cases e1 : ((a : Int) == (s.slot : Int)) with
    | false => exact .inr (.inl ⟨rfl, rfl, bad fun e => by rw [← e] at e1; simp at e1⟩)
    | true =>
      have h1 := eq_of_beq e1
      cases e2 : ((b : Int) == (s.gen : Int)) with
      | false => exact .inr (.inr (.inl ⟨rfl, rfl, rfl, bad fun e => by rw [← e] at e2; simp at e2⟩))
      | true =>
        have h2 := eq_of_beq e2
        have hh : (⟨a, b⟩ : Hd) = s := by
          obtain ⟨p, q⟩ := s
          simp only at h1 h2 ⊢
          simp only [Hd.mk.injEq]; omega
        have hxe : ((⟨a, b⟩, c) : Hd × Th) = T[pre.length] := by
          obtain ⟨j, hj, he⟩ := List.getElem_of_mem hx
          have hjn : j = pre.length := by
            have h3 : j < (T.map (·.1)).length := by rw [List.length_map]; exact hj
            have h4 : pre.length < (T.map (·.1)).length := by rw [List.length_map]; exact hn
            refine (List.getElem_inj hnd (h₀ := h3) (h₁ := h4)).1 ?_
            rw [List.getElem_map, List.getElem_map, he, hy]
            exact hh
          subst hjn
          exact he.symm
        exact .inr (.inr (.inr ⟨rfl, hxe, by rw [hs]; exact decide_eq_true hxe.symm⟩))
end Go.Proofs.Ytijlnlcjlkanaaa.Vsa
