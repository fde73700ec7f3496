/- Rings: one leads to one at most; the plain side. -/
import Derived.Lib.Hide
import Derived.Test.YtclcbiiijoeplaaDoorProg
set_option linter.unusedVariables false
namespace Go.Proofs.YtclcbiiijoeplaaDoor.Rcy

section
variable (f : Nat → Option Nat)
/-- Where m steps lead. -/
def it (a : Nat) : Nat → Option Nat
  | 0 => some a
  | m + 1 => (it a m).bind f
variable {f}
theorem it_succ {a b m : Nat} (h : it f a m = some b) : it f a (m + 1) = f b := by rw [it, h]; rfl
theorem it_add {a b p : Nat} (h : it f a p = some b) : ∀ q, it f a (p + q) = it f b q
  | 0 => by rw [Nat.add_zero, h]; rfl
  | q + 1 => by rw [← Nat.add_assoc, it, it, it_add h q]
theorem it_none {a p : Nat} (h : it f a p = none) : ∀ q, it f a (p + q) = none
  | 0 => h
  | q + 1 => by rw [← Nat.add_assoc, it, it_none h q]; rfl
theorem it_mul {a p : Nat} (h : it f a p = some a) : ∀ k, it f a (p * k) = some a
  | 0 => rfl
  | k + 1 => by rw [Nat.mul_succ, Nat.add_comm, it_add h]; exact it_mul h k
theorem it_front {a b m : Nat} (h : f a = some b) : it f a (m + 1) = it f b m := by
  have h1 : it f a 1 = some b := by rw [it, it]; exact h
  rw [Nat.add_comm]; exact it_add h1 m
/-- p steps, and no fewer, lead back. -/
structure Cyc (f : Nat → Option Nat) (a p : Nat) : Prop where
  pos : 0 < p
  back : it f a p = some a
  min : ∀ q, 0 < q → q < p → it f a q ≠ some a
theorem cyc_exists {a p : Nat} (h0 : 0 < p) (h : it f a p = some a) : ∃ q, Cyc f a q ∧ q ≤ p := by
  induction p using Nat.strongRecOn with
  | _ p ih =>
    by_cases hm : ∃ q, 0 < q ∧ q < p ∧ it f a q = some a
    · obtain ⟨q, h1, h2, h3⟩ := hm
      obtain ⟨r, hr, hle⟩ := ih q h2 h1 h3
      exact ⟨r, hr, by omega⟩
    · exact ⟨p, ⟨h0, h, fun q h1 h2 h3 => hm ⟨q, h1, h2, h3⟩⟩, Nat.le_refl _⟩
theorem cyc_unique {a p q : Nat} (h : Cyc f a p) (k : Cyc f a q) : p = q := by
  rcases Nat.lt_trichotomy p q with h1 | h1 | h1
  · exact absurd h.back (k.min p h.pos h1)
  · exact h1
  · exact absurd k.back (h.min q k.pos h1)
theorem cyc_all {a p : Nat} (h : Cyc f a p) (q : Nat) : ∃ b, it f a q = some b := by
  cases e : it f a q with
  | some b => exact ⟨b, rfl⟩
  | none =>
    have h1 := it_none e (p * q - q)
    have hp := h.pos
    have hle : q ≤ p * q := Nat.le_mul_of_pos_left q hp
    rw [show q + (p * q - q) = p * q by omega, it_mul h.back] at h1
    cases h1
/-- One on the way round has the same way round. -/
theorem cyc_on {a b p q : Nat} (h : Cyc f a p) (hq : it f a q = some b) : it f b p = some b := by
  rw [← it_add hq, Nat.add_comm, it_add h.back, hq]
theorem cyc_home {a b p q : Nat} (h : Cyc f a p) (hq : it f a q = some b) : ∃ r, it f b r = some a := by
  have hle : q ≤ p * q := Nat.le_mul_of_pos_left q h.pos
  refine ⟨p * q - q, ?_⟩
  rw [← it_add hq, show q + (p * q - q) = p * q by omega]
  exact it_mul h.back q
theorem it_mod {a p : Nat} (h : Cyc f a p) (q : Nat) : it f a q = it f a (q % p) := by
  have := it_add (it_mul h.back (q / p)) (q % p)
  rw [Nat.div_add_mod] at this
  exact this
/-- The values of one way round. -/
def vals (f : Nat → Option Nat) (a : Nat) (m : Nat) : List Nat := (List.range m).map fun q => (it f a q).getD 0
theorem vals_succ (a m : Nat) : vals f a (m + 1) = vals f a m ++ [(it f a m).getD 0] := by simp [vals, List.range_succ]
theorem mem_vals {a m b : Nat} : b ∈ vals f a m ↔ ∃ q, q < m ∧ (it f a q).getD 0 = b := by simp [vals]
/-- The ring that a stands first in. -/
structure Ring (f : Nat → Option Nat) (a : Nat) (l : List Nat) : Prop where
  ex : ∃ p, Cyc f a p ∧ (∀ q b, it f a q = some b → a ≤ b) ∧ l = vals f a p
theorem ring_unique {a : Nat} {l m : List Nat} (h : Ring f a l) (k : Ring f a m) : l = m := by
  obtain ⟨p, h1, _, rfl⟩ := h.ex
  obtain ⟨q, k1, _, rfl⟩ := k.ex
  rw [cyc_unique h1 k1]
theorem ring_least {a p b q : Nat} {l : List Nat} (h : Cyc f a p) (hq : it f a q = some b) (k : Ring f b l) : ∀ r c, it f a r = some c → b ≤ c := by
  intro r c hr
  obtain ⟨p', k1, k2, _⟩ := k.ex
  obtain ⟨s, hs⟩ := cyc_home h hq
  exact k2 (s + r) c (by rw [it_add hs, hr])
open Classical in
noncomputable def ringAt (f : Nat → Option Nat) (a : Nat) : Option (List Nat) := if h : ∃ l, Ring f a l then some h.choose else none
theorem ringAt_some {a : Nat} {l : List Nat} : ringAt f a = some l ↔ Ring f a l := by
  unfold ringAt
  constructor
  · intro h
    split at h
    · rename_i hx; cases h; exact hx.choose_spec
    · cases h
  · intro h
    rw [dif_pos ⟨l, h⟩]
    congr 1
    exact ring_unique (Exists.choose_spec (⟨l, h⟩ : ∃ l, Ring f a l)) h
theorem ringAt_none {a : Nat} (h : ∀ l, ¬ Ring f a l) : ringAt f a = none := by
  unfold ringAt
  rw [dif_neg (fun ⟨l, hl⟩ => h l hl)]
/-- All rings of n, by the one that stands first. -/
noncomputable def rings (f : Nat → Option Nat) (n : Nat) : List (List Nat) := (List.range n).filterMap (ringAt f)
theorem rings_succ (n : Nat) : rings f (n + 1) = rings f n ++ (match ringAt f n with | some l => [l] | none => []) := by
  unfold rings
  rw [List.range_succ, List.filterMap_append]
  congr 1
  cases h : ringAt f n <;> simp [h]
end

theorem nodup_lt : ∀ (n : Nat) (l : List Nat), l.Nodup → (∀ a ∈ l, a < n) → l.length ≤ n
  | 0, l, _, h => by
    cases l with
    | nil => simp
    | cons a l => exact absurd (h a (by simp)) (by omega)
  | n + 1, l, hd, h => by
    have h1 := nodup_lt n (l.filter (· != n)) (hd.filter _) (fun a ha => by
      obtain ⟨h1, h2⟩ := List.mem_filter.1 ha
      have := h a h1
      have : a ≠ n := by simpa using h2
      omega)
    have h2 : l.length ≤ (l.filter (· != n)).length + 1 := by
      clear h1 h
      induction l with
      | nil => simp
      | cons a l ih =>
        simp only [List.nodup_cons] at hd
        by_cases ha : a = n
        · subst ha
          have : l.filter (· != a) = l := by
            rw [List.filter_eq_self]
            intro b hb
            have : b ≠ a := fun e => hd.1 (e ▸ hb)
            simpa using this
          simp [this]
        · have : (a != n) = true := by simpa using ha
          simp only [List.filter_cons, this, if_true, List.length_cons]
          have := ih hd.2
          omega
    omega
section
variable {f : Nat → Option Nat} {n : Nat}
/-- f leads from those below n to those below n. -/
def Within (f : Nat → Option Nat) (n : Nat) : Prop := ∀ a b, f a = some b → b < n
theorem it_lt (h : Within f n) {a b : Nat} (ha : a < n) : ∀ {m}, it f a m = some b → b < n
  | 0, e => by cases e; exact ha
  | m + 1, e => by
    rw [it] at e
    obtain ⟨c, _, h2⟩ := Option.bind_eq_some_iff.1 e
    exact h c b h2
/-- All different, as long as none comes back. -/
theorem vals_nodup {a p : Nat} (h : Cyc f a p) : (vals f a p).Nodup := by
  have h0 : (List.range p).Nodup := List.nodup_range
  unfold vals
  rw [List.nodup_iff_pairwise_ne, List.pairwise_map]
  rw [List.nodup_iff_pairwise_ne] at h0
  refine List.Pairwise.imp_of_mem ?_ (List.pairwise_lt_range (n := p))
  intro x y hx hy hlt e
  rw [List.mem_range] at hx hy
  obtain ⟨b, hb⟩ := cyc_all h x
  obtain ⟨c, hc⟩ := cyc_all h y
  rw [hb, hc] at e
  simp only [Option.getD_some] at e
  subst e
  have h1 : it f b (p - x) = some a := by
    rw [← it_add hb, show x + (p - x) = p by omega]; exact h.back
  have h2 : it f a (y + (p - x)) = some a := by rw [it_add hc]; exact h1
  have h3 : it f a (y - x) = some a := by
    have h4 := it_mod h (y + (p - x))
    rw [h2, show y + (p - x) = (y - x) + p by omega, Nat.add_mod_right, Nat.mod_eq_of_lt (by omega)] at h4
    exact h4.symm
  exact h.min (y - x) (by omega) (by omega) h3
theorem cyc_le (hW : Within f n) {a p : Nat} (ha : a < n) (h : Cyc f a p) : p ≤ n := by
  have h1 := nodup_lt n (vals f a p) (vals_nodup h) (fun b hb => by
    obtain ⟨q, _, e⟩ := mem_vals.1 hb
    obtain ⟨c, hc⟩ := cyc_all h q
    rw [hc] at e
    cases e
    exact it_lt hW ha hc)
  simpa [vals] using h1
/-! ### The walk that counts its steps -/
/-- Behind m steps from i: where one is, nothing met i on the way. -/
structure Way (f : Nat → Option Nat) (i m : Nat) (at_ : Option Nat) : Prop where
  here : it f i (m + 1) = at_
  all : ∀ q, q ≤ m → ∃ b, it f i q = some b
  far : ∀ q, 0 < q → q ≤ m → it f i q ≠ some i
theorem way_start (f : Nat → Option Nat) (i : Nat) : Way f i 0 (f i) := ⟨rfl, fun q hq => ⟨i, by rw [show q = 0 by omega]; rfl⟩, fun q h1 h2 => absurd h1 (by omega)⟩
theorem way_step {i m b : Nat} (h : Way f i m (some b)) (hb : b ≠ i) : Way f i (m + 1) (f b) :=
  ⟨it_succ h.here, fun q hq => by
    by_cases e : q = m + 1
    · rw [e]; exact ⟨b, h.here⟩
    · exact h.all q (by omega), fun q h1 h2 => by
    by_cases e : q = m + 1
    · rw [e, h.here]; intro e2; cases e2; exact hb rfl
    · exact h.far q h1 (by omega)⟩
/-- Are all behind the first greater? -/
def firstB (f : Nat → Option Nat) (i m : Nat) : Bool := (List.range m).all fun q => decide (i < (it f i (q + 1)).getD 0)
theorem firstB_succ (i m : Nat) : firstB f i (m + 1) = (firstB f i m && decide (i < (it f i (m + 1)).getD 0)) := by
  unfold firstB
  rw [List.range_succ, List.all_append]; simp
theorem way_cyc {i m : Nat} (h : Way f i m (some i)) : Cyc f i (m + 1) :=
  ⟨by omega, h.here, fun q h1 h2 => h.far q h1 (by omega)⟩
theorem way_ring {i m : Nat} (h : Way f i m (some i)) (hf : firstB f i m = true) : ringAt f i = some (vals f i (m + 1)) := by
  refine ringAt_some.2 ⟨m + 1, way_cyc h, fun q b hq => ?_, rfl⟩
  rw [it_mod (way_cyc h)] at hq
  have hlt : q % (m + 1) < m + 1 := Nat.mod_lt _ (by omega)
  cases hr : q % (m + 1) with
  | zero => rw [hr] at hq; cases hq; exact Nat.le_refl _
  | succ r =>
    rw [hr] at hq hlt
    have := List.all_eq_true.1 hf r (List.mem_range.2 (by omega))
    rw [hq] at this
    have := of_decide_eq_true this
    exact Nat.le_of_lt this
theorem way_back {i m : Nat} (h : Way f i m (some i)) (hf : firstB f i m = false) : ringAt f i = none := by
  refine ringAt_none fun l hl => ?_
  obtain ⟨p, h1, h2, _⟩ := hl.ex
  have : firstB f i m = true := by
    unfold firstB
    rw [List.all_eq_true]
    intro q hq
    rw [List.mem_range] at hq
    obtain ⟨b, hb⟩ := cyc_all h1 (q + 1)
    have h3 := h2 (q + 1) b hb
    have h4 := h.far (q + 1) (by omega) (by omega)
    rw [hb] at h4 ⊢
    have : b ≠ i := fun e => h4 (by rw [e])
    exact decide_eq_true (show i < b by omega)
  rw [this] at hf; cases hf
theorem way_end {i m : Nat} (h : Way f i m none) : ringAt f i = none := by
  refine ringAt_none fun l hl => ?_
  obtain ⟨p, h1, _, _⟩ := hl.ex
  obtain ⟨b, hb⟩ := cyc_all h1 (m + 1)
  rw [h.here] at hb; cases hb
theorem way_long (hW : Within f n) {i m b : Nat} (hi : i < n) (hm : n ≤ m) (h : Way f i m (some b)) (hb : b ≠ i) : ringAt f i = none := by
  refine ringAt_none fun l hl => ?_
  obtain ⟨p, h1, _, _⟩ := hl.ex
  have hp := cyc_le hW hi h1
  exact h.far p h1.pos (by omega) h1.back
/-! ### The walk that marks -/
/-- What has been marked is closed; its rings are known. -/
structure Mark (f : Nat → Option Nat) (D : Nat → Prop) (R : Nat → Option (List Nat)) : Prop where
  closed : ∀ a b, D a → f a = some b → D b
  rings : ∀ a l, R a = some l ↔ (Ring f a l ∧ D a)
/-- A walk from i: m steps, all of them not marked before, all different. -/
structure Walk (f : Nat → Option Nat) (D : Nat → Prop) (i m : Nat) (at_ : Option Nat) : Prop where
  here : it f i m = at_
  free : ∀ q b, q < m → it f i q = some b → ¬ D b
  all : ∀ q, q < m → ∃ b, it f i q = some b
theorem closed_it {D : Nat → Prop} (hc : ∀ a b, D a → f a = some b → D b) {a b : Nat} (ha : D a) : ∀ {m}, it f a m = some b → D b
  | 0, e => by cases e; exact ha
  | m + 1, e => by
    rw [it] at e
    obtain ⟨c, h1, h2⟩ := Option.bind_eq_some_iff.1 e
    exact hc c b (closed_it hc ha h1) h2
/-- Is it on the walk? -/
def On (f : Nat → Option Nat) (i m a : Nat) : Prop := ∃ q, q < m ∧ it f i q = some a
theorem on_succ {i m a : Nat} : On f i (m + 1) a ↔ On f i m a ∨ it f i m = some a := by
  constructor
  · rintro ⟨q, h1, h2⟩
    by_cases e : q = m
    · exact .inr (e ▸ h2)
    · exact .inl ⟨q, by omega, h2⟩
  · rintro (⟨q, h1, h2⟩ | h)
    · exact ⟨q, by omega, h2⟩
    · exact ⟨m, by omega, h⟩
/-- One on the walk that comes back to itself: then the walk has come back to itself, and it is met from there. -/
theorem on_cyc {D : Nat → Prop} {i m c p : Nat} {at_ : Option Nat} (hc : ∀ a b, D a → f a = some b → D b) (h : Walk f D i m at_) (hon : On f i m c) (hp : Cyc f c p) :
    ∃ b s, at_ = some b ∧ ¬ D b ∧ it f b s = some c := by
  obtain ⟨r, hr, hrc⟩ := hon
  obtain ⟨b, hb⟩ := cyc_all hp (m - r)
  have h1 : it f i m = some b := by
    have := it_add hrc (m - r)
    rw [show r + (m - r) = m by omega, hb] at this; exact this
  obtain ⟨s, hs⟩ := cyc_home hp hb
  refine ⟨b, s, h.here ▸ h1, fun hD => ?_, hs⟩
  exact h.free r c hr hrc (closed_it hc hD hs)
/-- The walk has come to its end: nobody further, or one marked before it. -/
theorem mark_none {D : Nat → Prop} {R : Nat → Option (List Nat)} {i m : Nat} {at_ : Option Nat} (hM : Mark f D R) (h : Walk f D i m at_) (hend : ∀ b, at_ = some b → D b) : Mark f (fun a => D a ∨ On f i m a) R := by
  refine ⟨fun a b ha hb => ?_, fun a l => ?_⟩
  · rcases ha with ha | ⟨q, hq, hqa⟩
    · exact .inl (hM.closed a b ha hb)
    · have h1 : it f i (q + 1) = some b := by rw [it_succ hqa]; exact hb
      by_cases e : q + 1 = m
      · rw [e, h.here] at h1; exact .inl (hend b h1)
      · exact .inr ⟨q + 1, by omega, h1⟩
  · rw [hM.rings]
    constructor
    · rintro ⟨h1, h2⟩; exact ⟨h1, .inl h2⟩
    · rintro ⟨h1, h2 | h2⟩
      · exact ⟨h1, h2⟩
      · obtain ⟨p, hp, _, _⟩ := h1.ex
        obtain ⟨b, s, e, hb, _⟩ := on_cyc hM.closed h h2 hp
        exact absurd (hend b e) hb
/-- The walk has come to itself: a ring more. -/
theorem mark_ring {D : Nat → Prop} {R : Nat → Option (List Nat)} {i m b c : Nat} {l : List Nat} (hM : Mark f D R) (h : Walk f D i m (some b)) (hon : On f i m b) (hr : Ring f c l) (hbc : ∃ q, it f b q = some c) :
    Mark f (fun a => D a ∨ On f i m a) (fun a => if a = c then some l else R a) := by
  obtain ⟨q0, hq0⟩ := hbc
  obtain ⟨r, hrm, hrb⟩ := hon
  have hback : it f b (m - r) = some b := by
    have := it_add hrb (m - r)
    rw [show r + (m - r) = m by omega, h.here] at this; exact this.symm
  obtain ⟨pb, hpb, _⟩ := cyc_exists (by omega) hback
  have honall : ∀ s a, it f b s = some a → On f i m a := by
    intro s a hs
    have hcm : it f b s = it f b (s % (m - r)) := by
      have := it_add (it_mul hback (s / (m - r))) (s % (m - r))
      rw [Nat.div_add_mod] at this; exact this
    rw [hcm] at hs
    have hlt : s % (m - r) < m - r := Nat.mod_lt _ (by omega)
    exact ⟨r + s % (m - r), by omega, by rw [it_add hrb]; exact hs⟩
  have hconn : On f i m c := honall q0 c hq0
  have hcD : ¬ D c := by
    obtain ⟨q, h1, h2⟩ := hconn; exact h.free q c h1 h2
  refine ⟨fun a b' ha hb' => ?_, fun a k => ?_⟩
  · rcases ha with ha | ⟨q, hq, hqa⟩
    · exact .inl (hM.closed a b' ha hb')
    · have h1 : it f i (q + 1) = some b' := by rw [it_succ hqa]; exact hb'
      by_cases e : q + 1 = m
      · rw [e, h.here] at h1
        cases h1
        exact .inr ⟨r, hrm, hrb⟩
      · exact .inr ⟨q + 1, by omega, h1⟩
  · by_cases hac : a = c
    · subst hac
      simp only [if_true, Option.some.injEq]
      constructor
      · rintro rfl; exact ⟨hr, .inr hconn⟩
      · rintro ⟨h1, _⟩; exact ring_unique hr h1
    · rw [if_neg hac, hM.rings]
      constructor
      · rintro ⟨h1, h2⟩; exact ⟨h1, .inl h2⟩
      · rintro ⟨h1, h2 | h2⟩
        · exact ⟨h1, h2⟩
        · obtain ⟨p, hp, hmin, _⟩ := h1.ex
          obtain ⟨b', s, e, hb', hs⟩ := on_cyc hM.closed h h2 hp
          cases e
          exfalso
          -- a and c lie on one way round
          obtain ⟨p', hp', hmin', _⟩ := hr.ex
          obtain ⟨x, hx⟩ := cyc_home hpb hq0
          obtain ⟨y, hy⟩ := cyc_home hpb hs
          have h3 : a ≤ c := hmin (y + q0) c (by rw [it_add hy]; exact hq0)
          have h4 : c ≤ a := hmin' (x + s) a (by rw [it_add hx]; exact hs)
          exact hac (by omega)
theorem mark_all {D : Nat → Prop} {R : Nat → Option (List Nat)} (hM : Mark f D R) {a : Nat} (ha : D a) : R a = ringAt f a := by
  cases h : R a with
  | some l => exact (ringAt_some.2 ((hM.rings a l).1 h).1).symm
  | none =>
    refine (ringAt_none fun l hl => ?_).symm
    rw [(hM.rings a l).2 ⟨hl, ha⟩] at h; cases h
/-- The least on the way from b: s steps looked at. -/
def leastTo (f : Nat → Option Nat) (b : Nat) : Nat → Nat
  | 0 => b
  | s + 1 => min (leastTo f b s) ((it f b (s + 1)).getD 0)
theorem least_le {b : Nat} : ∀ {s q}, q ≤ s → leastTo f b s ≤ (it f b q).getD 0
  | 0, q, h => by rw [show q = 0 by omega]; exact Nat.le_refl _
  | s + 1, q, h => by
    unfold leastTo
    by_cases e : q = s + 1
    · rw [e]; exact Nat.min_le_right _ _
    · exact Nat.le_trans (Nat.min_le_left _ _) (least_le (by omega))
theorem least_mem {b : Nat} : ∀ s, ∃ q, q ≤ s ∧ leastTo f b s = (it f b q).getD 0
  | 0 => ⟨0, Nat.le_refl _, rfl⟩
  | s + 1 => by
    obtain ⟨q, h1, h2⟩ := least_mem (b := b) s
    unfold leastTo
    rcases Nat.le_total (leastTo f b s) ((it f b (s + 1)).getD 0) with h | h
    · exact ⟨q, by omega, by rw [Nat.min_eq_left h]; exact h2⟩
    · exact ⟨s + 1, Nat.le_refl _, Nat.min_eq_right h⟩
/-- The least on a way round has a ring. -/
theorem least_ring {b s : Nat} (h : Cyc f b (s + 1)) : ∃ c p, leastTo f b s = c ∧ (∃ q, it f b q = some c) ∧ Cyc f c p ∧ Ring f c (vals f c p) := by
  obtain ⟨q, h1, h2⟩ := least_mem (f := f) (b := b) s
  obtain ⟨c, hc⟩ := cyc_all h q
  rw [hc] at h2
  obtain ⟨p, hp, _⟩ := cyc_exists h.pos (cyc_on h hc)
  refine ⟨c, p, h2, ⟨q, hc⟩, hp, ⟨p, hp, fun r d hr => ?_, rfl⟩⟩
  have h3 : it f b (q + r) = some d := by rw [it_add hc, hr]
  rw [it_mod h] at h3
  have hlt : (q + r) % (s + 1) < s + 1 := Nat.mod_lt _ (by omega)
  have := least_le (f := f) (b := b) (s := s) (q := (q + r) % (s + 1)) (by omega)
  rw [h3, h2] at this
  exact this
end
end Go.Proofs.YtclcbiiijoeplaaDoor.Rcy
