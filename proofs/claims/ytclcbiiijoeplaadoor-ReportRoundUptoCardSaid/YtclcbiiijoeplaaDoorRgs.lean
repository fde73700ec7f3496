/- report.Rings: what lies in memory while it marks. -/
import Derived.Test.YtclcbiiijoeplaaDoorRgp
set_option linter.unusedVariables false
namespace Go.Proofs.YtclcbiiijoeplaaDoor.Rgs
open Go.RowKit Go.Sort Rwo Rcy Rsl Rowz Rmp Rrg Rgp

abbrev sl (g n : Nat) : Value := .slice (some ⟨g, 0, none⟩) n n
theorem own_sl {g n b : Nat} (h : (sl g n).ownBlock = some b) : g = b := Option.some.inj h
structure St (w : World) (l : List As) (gl gm gd : Nat) (D : List Int) (m : IM) (R : Nat → Option (List Nat)) (wr : World) : Prop where
  below : Below w.heap.size w wr
  leads : Ints w.heap.size (sl gl l.length) (tos l l.length) wr
  done : Ints w.heap.size (sl gd l.length) D wr
  map : MapI gm m wr
  no : ∀ a : Nat, R a = none → findI m a = none
  yes : ∀ (a : Nat) k, R a = some k → ∃ s, findI m a = some s ∧ Ints (gd + 1) s.val (sers l k) wr
  apart : ∀ (a b : Nat) s t, a ≠ b → findI m a = some s → findI m b = some t → ∀ g, s.val.ownBlock = some g → t.val.ownBlock ≠ some g
  order : w.heap.size < gl ∧ gl < gm ∧ gm < gd ∧ gd < wr.heap.size
variable {w : World} {l : List As} {gl gm gd : Nat} {D : List Int} {m : IM} {R : Nat → Option (List Nat)} {wr wr' : World}
theorem St.grow (h : St w l gl gm gd D m R wr) (hb : Below wr.heap.size wr wr') : St w l gl gm gd D m R wr' :=
  ⟨h.below.trans (hb.mono h.below.size), h.leads.below hb (Nat.le_refl _), h.done.below hb (Nat.le_refl _), h.map.below hb h.map.lt, h.no,
   fun a k e => let ⟨s, h1, h2⟩ := h.yes a k e; ⟨s, h1, h2.below hb (Nat.le_refl _)⟩, h.apart, by have := h.order; have := hb.size; omega⟩
theorem St.len (h : St w l gl gm gd D m R wr) : D.length = l.length := by
  obtain ⟨A, c, e⟩ := h.done.shape
  simp only [Value.slice.injEq] at e
  exact e.2.1.symm
/-- A mark more. -/
theorem St.mark (h : St w l gl gm gd D m R wr) {a : Nat} (ha : a < l.length) (x : Int) :
    St w l gl gm gd (D.set a x) m R (wr.setCell ⟨gd, a, none⟩ (.int .i64 x)) ∧ wr.frozen? ⟨gd, a, none⟩ = false ∧ wr.cell? ⟨gd, a, none⟩ = some (.int .i64 (D.getD a 0)) := by
  have ho := h.order
  have hp := Rgp.Ints.put h.done (j := a) (by rw [h.len]; exact ha) x
  have far : ∀ b, b ≠ gd → (wr.setCell ⟨gd, a, none⟩ (.int .i64 x)).heap[b]? = wr.heap[b]? := fun b hb => heap_setCell_other wr ⟨gd, a, none⟩ b _ hb
  refine ⟨⟨h.below.setCell (p := ⟨gd, a, none⟩) (by show w.heap.size ≤ gd; omega) _, ?_, hp.1, h.map.kept (far _ (by omega)), h.no, fun b k e => ?_, h.apart, ?_⟩, hp.2.1, Ints.cell h.done (by rw [h.len]; exact ha)⟩
  · exact h.leads.kept fun b hb => far b (by have := own_sl hb; omega)
  · obtain ⟨s, h1, h2⟩ := h.yes b k e
    exact ⟨s, h1, h2.kept fun g hg => far g (by have := (h2.lt hg).1; omega)⟩
  · have := ((Below.refl 0 wr).setCell (p := ⟨gd, a, none⟩) (Nat.zero_le _) (.int .i64 x)).size
    omega
/-- A ring laid into the map, new or longer than before. -/
theorem St.put (h : St w l gl gm gd D m R wr) {c : Nat} {s : SV} {k : List Nat} {ob : Obj} (hM : MapI gm (setI m c s) (setB wr gm ob)) (hs : Ints (gd + 1) s.val (sers l k) wr)
    (hap : ∀ (a : Nat) t, a ≠ c → findI m a = some t → ∀ g, t.val.ownBlock = some g → s.val.ownBlock ≠ some g) :
    St w l gl gm gd D (setI m c s) (fun a => if a = c then some k else R a) (setB wr gm ob) := by
  have ho := h.order
  have far : ∀ b, b ≠ gm → (setB wr gm ob).heap[b]? = wr.heap[b]? := fun b hb => setB_other wr ob hb
  refine ⟨setB_below h.below (by omega) ob, h.leads.kept fun b hb => far b (by have := own_sl hb; omega), h.done.kept fun b hb => far b (by have := own_sl hb; omega), hM, fun a e => ?_, fun a k' e => ?_, fun a b s' t hab h1 h2 g hg => ?_, by rw [setB_size]; exact ho⟩
  · by_cases hac : a = c
    · rw [if_pos hac] at e; cases e
    · rw [if_neg hac] at e
      rw [find_setI, if_neg (by omega)]; exact h.no a e
  · by_cases hac : a = c
    · rw [if_pos hac] at e
      cases e
      exact ⟨s, by rw [find_setI, if_pos (by omega)], hs.kept fun g hg => far g (by have := (hs.lt hg).1; omega)⟩
    · rw [if_neg hac] at e
      obtain ⟨t, h1, h2⟩ := h.yes a k' e
      exact ⟨t, by rw [find_setI, if_neg (by omega)]; exact h1, h2.kept fun g hg => far g (by have := (h2.lt hg).1; omega)⟩
  · rw [find_setI] at h1 h2
    by_cases hac : a = c
    · subst hac
      rw [if_pos rfl] at h1
      rw [if_neg (by omega)] at h2
      cases h1
      intro e
      exact hap b t (Ne.symm hab) h2 g e hg
    · rw [if_neg (by omega)] at h1
      by_cases hbc : b = c
      · subst hbc
        rw [if_pos rfl] at h2
        cases h2
        exact hap a s' hac h1 g hg
      · rw [if_neg (by omega)] at h2
        exact h.apart a b s' t hab h1 h2 g hg
/-- Behind an append onto the ring of c. -/
theorem St.kept3 (h : St w l gl gm gd D m R wr) {c : Nat} {s : SV} {k : List Nat} (hRc : R c = some k) (hf : findI m c = some s) : ∀ b, b < gd + 1 → s.val.ownBlock ≠ some b := by
  obtain ⟨t, h1, h2⟩ := h.yes c k hRc
  rw [hf] at h1; cases h1
  intro b hb e
  have := (h2.lt e).1
  omega
theorem St.extend (h : St w l gl gm gd D m R wr) {c : Nat} {s s' : SV} {k k2 : List Nat} {x : Int} {w3 : World} {ob : Obj} (hRc : R c = some k) (hf : findI m c = some s)
    (hO : Ints (gd + 1) s'.val (sers l k ++ [x]) w3) (hb3 : Below (gd + 1) wr w3) (hfar : ∀ b, b < wr.heap.size → s.val.ownBlock ≠ some b → w3.heap[b]? = wr.heap[b]?)
    (hat : ∀ g, s'.val.ownBlock = some g → s.val.ownBlock = some g ∨ wr.heap.size ≤ g) (hM : MapI gm (setI m c s') (setB w3 gm ob)) (hk : sers l k2 = sers l k ++ [x]) :
    St w l gl gm gd D (setI m c s') (fun a => if a = c then some k2 else R a) (setB w3 gm ob) := by
  have ho := h.order
  have hno := h.kept3 hRc hf
  have far : ∀ b, b ≠ gm → (setB w3 gm ob).heap[b]? = w3.heap[b]? := fun b hb => setB_other w3 ob hb
  refine ⟨setB_below (h.below.trans (hb3.mono (by omega))) (by omega) ob, ?_, ?_, hM, fun a e => ?_, fun a k' e => ?_, fun a b s1 t hab h1 h2 g hg => ?_, by rw [setB_size]; have := hb3.size; omega⟩
  · refine h.leads.kept fun b hb => ?_
    have := own_sl hb
    rw [far b (by omega), hfar b (by omega) (hno b (by omega))]
  · refine h.done.kept fun b hb => ?_
    have := own_sl hb
    rw [far b (by omega), hfar b (by omega) (hno b (by omega))]
  · by_cases hac : a = c
    · rw [if_pos hac] at e; cases e
    · rw [if_neg hac] at e
      rw [find_setI, if_neg (by omega)]; exact h.no a e
  · by_cases hac : a = c
    · rw [if_pos hac] at e
      cases e
      exact ⟨s', by rw [find_setI, if_pos (by omega)], by rw [hk]; exact hO.kept fun g hg => far g (by have := (hO.lt hg).1; omega)⟩
    · rw [if_neg hac] at e
      obtain ⟨t, h1, h2⟩ := h.yes a k' e
      refine ⟨t, by rw [find_setI, if_neg (by omega)]; exact h1, h2.kept fun g hg => ?_⟩
      have hl := h2.lt hg
      rw [far g (by omega)]
      exact hfar g hl.2 (h.apart a c t s hac h1 hf g hg)
  · rw [find_setI] at h1 h2
    have new : ∀ (a : Nat) t, a ≠ c → findI m a = some t → ∀ g, t.val.ownBlock = some g → s'.val.ownBlock ≠ some g := by
      intro a t hac ht g hg e
      have hRa : ∃ k', R a = some k' := by
        cases hr : R a with
        | some k' => exact ⟨k', rfl⟩
        | none => rw [h.no a hr] at ht; cases ht
      obtain ⟨k', hr⟩ := hRa
      obtain ⟨t', h3, h4⟩ := h.yes a k' hr
      rw [ht] at h3; cases h3
      rcases hat g e with h5 | h5
      · exact h.apart a c t s hac ht hf g hg h5
      · have := (h4.lt hg).2; omega
    by_cases hac : a = c
    · subst hac
      rw [if_pos rfl] at h1
      rw [if_neg (by omega)] at h2
      cases h1
      intro e
      exact new b t (Ne.symm hab) h2 g e hg
    · rw [if_neg (by omega)] at h1
      by_cases hbc : b = c
      · subst hbc
        rw [if_pos rfl] at h2
        cases h2
        exact new a s1 hac h1 g hg
      · rw [if_neg (by omega)] at h2
        exact h.apart a b s1 t hab h1 h2 g hg
theorem St.congr {R' : Nat → Option (List Nat)} (h : St w l gl gm gd D m R wr) (e : ∀ a, R' a = R a) : St w l gl gm gd D m R' wr :=
  ⟨h.below, h.leads, h.done, h.map, fun a ha => h.no a (by rw [← e]; exact ha), fun a k ha => h.yes a k (by rw [← e]; exact ha), h.apart, h.order⟩
theorem St.leadc (h : St w l gl gm gd D m R wr) {a : Nat} (ha : a < l.length) : wr.cell? ⟨gl, a, none⟩ = some (.int .i64 (oi (leadsF l a))) := by
  have := Ints.cell h.leads (j := a) (by rw [tos_length]; exact ha)
  rwa [tos_get ha] at this
/-- Behind an append onto a row of rows. -/
theorem St.rows (h : St w l gl gm gd D m R wr) {v : Value} {vs : List SV} {w3 : World} (ho : Own slE 45 w.heap.size v vs wr) (hfar : ∀ b, b < wr.heap.size → v.ownBlock ≠ some b → w3.heap[b]? = wr.heap[b]?)
    (hb : Below w.heap.size wr w3) : St w l gl gm gd D m R w3 := by
  have hi : ∀ {B : Nat} {u : Value} {k : List Int}, Ints B u k wr → Ints B u k w3 := fun {B u k} hu => hu.kept fun b hb' => hfar b (hu.lt hb').2 (fun e => ho.apart hu (by decide) e hb')
  refine ⟨h.below.trans hb, hi h.leads, hi h.done, h.map.kept (hfar gm h.map.lt fun e => ?_), h.no, fun a k e => ?_, h.apart, by have := h.order; have := hb.size; omega⟩
  · obtain ⟨es, ck, hm, _⟩ := h.map
    rcases ho.2 with ⟨e1, _⟩ | ⟨g, cap, cur, e1, _, hg, _⟩
    · rw [e1] at e; cases e
    · rw [e1] at e
      have e2 : g = gm := Option.some.inj e
      rw [e2, hm] at hg
      cases hg
  · obtain ⟨s, h1, h2⟩ := h.yes a k e
    exact ⟨s, h1, hi h2⟩
theorem St.start {Wb : World} (hgl : w.heap.size < gl) (hI : Ints w.heap.size (sl gl l.length) (tos l l.length) Wb) (hB : Below w.heap.size w Wb) (hl : l.length ≤ 1048576) :
    St w l gl Wb.heap.size (Wb.heap.size + 1) (List.replicate l.length 0) [] (fun _ => none) ((Wb.alloc (.map #[] 0)).alloc (.cells (madeCells #[.int .i64 0] l.length) 3)) := by
  have h1 := own_zero l.length hl (Wb.alloc (.map #[] 0))
  rw [Nat.mul_one] at h1
  have hz : (Wb.alloc (.map #[] 0)).heap.size = Wb.heap.size + 1 := by simp
  have hb := hB.alloc hB.size (.map #[] 0)
  have hglt := (hI.lt (k := gl) rfl).2
  refine ⟨hb.alloc hb.size _, (hI.alloc _).alloc _, ?_, (MapI.made Wb).kept (heap_alloc_old _ _ (by simp)), fun a _ => rfl, fun a k e => (by cases e), fun a b s t _ e => (by cases e), ⟨hgl, hglt, by omega, by simp⟩⟩
  have h2 := h1.base (B' := w.heap.size) (by rw [hz]; have := hB.size; omega)
  rw [hz] at h2
  exact h2
end Go.Proofs.YtclcbiiijoeplaaDoor.Rgs
