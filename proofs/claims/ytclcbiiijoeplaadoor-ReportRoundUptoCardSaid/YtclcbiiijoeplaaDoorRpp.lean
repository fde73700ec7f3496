/- A line and its fields: the plain side. -/
import Derived.Test.YtclcbiiijoeplaaDoorRln
import Derived.Test.YtclcbiiijoeplaaDoorRfd
import Derived.Test.YtclcbiiijoeplaaDoorRnb
import Derived.Lib.ItoaNum
set_option linter.unusedVariables false
namespace Go.Proofs.YtclcbiiijoeplaaDoor.Rpp
open Go.RowKit Rpl Rwd Rmy Rln Rfd Rnb

/-- No blank in it. -/
def solid (l : List UInt8) : Prop := ∀ c ∈ l, c ≠ 32
theorem cut_unique : ∀ {x y r t : List UInt8}, solid x → solid y → x ++ 32 :: r = y ++ 32 :: t → x = y ∧ r = t
  | [], [], r, t, _, _, h => ⟨rfl, by simpa using h⟩
  | [], c :: y, r, t, _, hy, h => by
    simp only [List.nil_append, List.cons_append, List.cons.injEq] at h
    exact absurd h.1.symm (hy c List.mem_cons_self)
  | c :: x, [], r, t, hx, _, h => by
    simp only [List.nil_append, List.cons_append, List.cons.injEq] at h
    exact absurd h.1 (hx c List.mem_cons_self)
  | c :: x, d :: y, r, t, hx, hy, h => by
    simp only [List.cons_append, List.cons.injEq] at h
    obtain ⟨h1, h2⟩ := cut_unique (fun z hz => hx z (List.mem_cons_of_mem _ hz)) (fun z hz => hy z (List.mem_cons_of_mem _ hz)) h.2
    exact ⟨by rw [h.1, h1], h2⟩
theorem cut_none {x y r : List UInt8} (hx : solid x) (h : x = y ++ 32 :: r) : False := by
  exact hx 32 (by rw [h]; simp) rfl
theorem digit_mem (n : Nat) : ∀ c ∈ Lib.decDigits n, 48 ≤ c.toNat ∧ c.toNat ≤ 57 := by
  induction n using Nat.strongRecOn with
  | _ n ih =>
    intro c hc
    by_cases h : n < 10
    · rw [Lib.decDigits_one h] at hc
      simp only [List.mem_singleton] at hc
      rw [hc, UInt8.toNat_ofNat']
      omega
    · rw [Rdg.dec_step h] at hc
      rcases List.mem_append.1 hc with h1 | h1
      · exact ih (n / 10) (by omega) c h1
      · simp only [List.mem_singleton] at h1
        rw [h1, UInt8.toNat_ofNat']
        omega
theorem digs_dec (n : Nat) : digs (Lib.decDigits n) := digit_mem n
theorem val_dec (n : Nat) : val (Lib.decDigits n) = n := by
  induction n using Nat.strongRecOn with
  | _ n ih =>
    by_cases h : n < 10
    · rw [Lib.decDigits_one h]
      show 10 * 0 + ((UInt8.ofNat (48 + n)).toNat - 48) = n
      rw [UInt8.toNat_ofNat']; omega
    · rw [Rdg.dec_step h, val_snoc, ih (n / 10) (by omega), UInt8.toNat_ofNat']
      omega
theorem len_dec (k n : Nat) (hk : 1 ≤ k) (h : n < 10 ^ k) : (Lib.decDigits n).length ≤ k := by
  induction k generalizing n with
  | zero => omega
  | succ k ih =>
    by_cases h1 : n < 10
    · rw [Lib.decDigits_one h1]; simp
    · rw [Rdg.dec_step h1, List.length_append, List.length_singleton]
      have : k ≠ 0 := by intro e; subst e; simp at h; omega
      have := ih (n / 10) (by omega) (by rw [Nat.pow_succ] at h; omega)
      omega
theorem num_dec {n : Int} (h1 : 0 ≤ n) (h2 : n ≤ 2147483647) : num (dec n) = n := by
  obtain ⟨m, rfl⟩ := Int.eq_ofNat_of_zero_le h1
  have hl : (dec (m : Int)).data.toList = Lib.decDigits m := rfl
  have hs : (dec (m : Int)).size = (Lib.decDigits m).length := rfl
  have hlen := len_dec 10 m (by omega) (by omega)
  have hpos : 0 < (Lib.decDigits m).length := by
    by_cases h : m < 10
    · rw [Lib.decDigits_one h]; simp
    · rw [Rdg.dec_step h]; simp
  unfold num
  rw [if_neg (by rw [hs]; omega), hl, if_pos ((all_iff _).2 (digs_dec m)), val_dec]
theorem solid_dec (n : Int) : solid (dec n).data.toList := by
  intro c hc h
  have := digit_mem n.toNat c hc
  rw [h] at this
  exact absurd this.1 (by decide)
theorem on_cases {on : Int} (h1 : 1 ≤ on) (h2 : on ≤ 8) : on = 1 ∨ on = 2 ∨ on = 3 ∨ on = 4 ∨ on = 5 ∨ on = 6 ∨ on = 7 ∨ on = 8 := by omega
theorem solid_wd (on : Int) : solid (wd on).data.toList := by
  by_cases h : on < 1 ∨ 8 < on
  · rw [wd_out h]; intro c hc; exact absurd hc (by simp)
  · rcases on_cases (on := on) (by omega) (by omega) with rfl | rfl | rfl | rfl | rfl | rfl | rfl | rfl <;> (unfold solid; decide)
theorem wd_inj {a b : Int} (ha : 1 ≤ a ∧ a ≤ 8) (hb : 1 ≤ b ∧ b ≤ 8) (h : (wd a).data.toList = (wd b).data.toList) : a = b := by
  rcases on_cases ha.1 ha.2 with rfl | rfl | rfl | rfl | rfl | rfl | rfl | rfl <;> rcases on_cases hb.1 hb.2 with rfl | rfl | rfl | rfl | rfl | rfl | rfl | rfl <;> first | rfl | exact absurd h (by decide)
/-- "goroutine", "line". -/
def gor : List UInt8 := [103, 111, 114, 111, 117, 116, 105, 110, 101]
def lin : List UInt8 := [108, 105, 110, 101]
theorem solid_gor : solid gor := by unfold solid; decide
theorem solid_lin : solid lin := by unfold solid; decide
/-- Five fields, each with a blank behind it, and a rest. -/
def parts (x0 x1 x2 x3 x4 r : List UInt8) : List UInt8 := x0 ++ 32 :: (x1 ++ 32 :: (x2 ++ 32 :: (x3 ++ 32 :: (x4 ++ 32 :: r))))
theorem line_parts (b : Bk) : (lineL b).data.toList = parts gor (dec b.ser).data.toList lin (dec b.lin).data.toList (wd b.on).data.toList b.fn.data.toList := by
  unfold lineL parts
  simp only [Rdg.app_toList, List.append_assoc]
  rfl
theorem parts_unique {x0 x1 x2 x3 x4 r y0 y1 y2 y3 y4 t : List UInt8} (h0 : solid x0) (h1 : solid x1) (h2 : solid x2) (h3 : solid x3) (h4 : solid x4)
    (k0 : solid y0) (k1 : solid y1) (k2 : solid y2) (k3 : solid y3) (k4 : solid y4) (h : parts x0 x1 x2 x3 x4 r = parts y0 y1 y2 y3 y4 t) : x0 = y0 ∧ x1 = y1 ∧ x2 = y2 ∧ x3 = y3 ∧ x4 = y4 ∧ r = t := by
  obtain ⟨e0, h⟩ := cut_unique h0 k0 h
  obtain ⟨e1, h⟩ := cut_unique h1 k1 h
  obtain ⟨e2, h⟩ := cut_unique h2 k2 h
  obtain ⟨e3, h⟩ := cut_unique h3 k3 h
  obtain ⟨e4, h⟩ := cut_unique h4 k4 h
  exact ⟨e0, e1, e2, e3, e4, h⟩
theorem ba_ext {a b : ByteArray} (h : a.data.toList = b.data.toList) : a = b := by
  cases a; cases b; simp only [ByteArray.mk.injEq]; exact Array.toList_inj.1 h
theorem may_in {b : Bk} (h : may b = true) : 1 ≤ b.ser ∧ b.ser ≤ 2147483647 ∧ 0 ≤ b.lin ∧ b.lin ≤ 2147483647 ∧ 1 ≤ b.on ∧ b.on ≤ 8 := (inb_iff b).1 (Bool.and_eq_true_iff.1 h).2
/-- Whose line a text with these fields is. -/
theorem fields_of {b : Bk} {x0 x1 x2 x3 x4 r : List UInt8} (h0 : solid x0) (h1 : solid x1) (h2 : solid x2) (h3 : solid x3) (h4 : solid x4) (h : (lineL b).data.toList = parts x0 x1 x2 x3 x4 r) :
    gor = x0 ∧ (dec b.ser).data.toList = x1 ∧ lin = x2 ∧ (dec b.lin).data.toList = x3 ∧ (wd b.on).data.toList = x4 ∧ b.fn.data.toList = r := by
  rw [line_parts] at h
  exact parts_unique solid_gor (solid_dec _) solid_lin (solid_dec _) (solid_wd _) h0 h1 h2 h3 h4 h
theorem dec_inj {a b : Int} (ha : 0 ≤ a ∧ a ≤ 2147483647) (hb : 0 ≤ b ∧ b ≤ 2147483647) (h : (dec a).data.toList = (dec b).data.toList) : a = b := by
  rw [← num_dec ha.1 ha.2, ← num_dec hb.1 hb.2, ba_ext h]
/-- Two of one line are one. -/
theorem line_inj {a b : Bk} (ha : may a = true) (hb : may b = true) (h : lineL a = lineL b) : a = b := by
  obtain ⟨a1, a2, a3, a4, a5, a6⟩ := may_in ha
  obtain ⟨b1, b2, b3, b4, b5, b6⟩ := may_in hb
  have h' : (lineL a).data.toList = (lineL b).data.toList := by rw [h]
  rw [line_parts b] at h'
  obtain ⟨_, e1, _, e3, e4, e5⟩ := fields_of solid_gor (solid_dec _) solid_lin (solid_dec _) (solid_wd _) h'
  have c1 := dec_inj ⟨by omega, a2⟩ ⟨by omega, b2⟩ e1
  have c3 := dec_inj ⟨a3, a4⟩ ⟨b3, b4⟩ e3
  have c4 := wd_inj ⟨a5, a6⟩ ⟨b5, b6⟩ e4
  have c5 := ba_ext e5
  obtain ⟨_, _, _, _⟩ := a
  obtain ⟨_, _, _, _⟩ := b
  simp only at c1 c3 c4 c5
  rw [c1, c3, c4, c5]
/-- The answer to: whose line is this? -/
def Whose (s : ByteArray) (o : Option Bk) : Prop := match o with
  | some b => may b = true ∧ lineL b = s
  | none => ∀ b, may b = true → lineL b ≠ s
theorem whose_one {s : ByteArray} {o p : Option Bk} (h : Whose s o) (k : Whose s p) : o = p := by
  match o, p, h, k with
  | none, none, _, _ => rfl
  | none, some b, h, k => exact absurd k.2 (h b k.1)
  | some b, none, h, k => exact absurd h.2 (k b h.1)
  | some a, some b, h, k => rw [line_inj h.1 k.1 (h.2.trans k.2.symm)]
end Go.Proofs.YtclcbiiijoeplaaDoor.Rpp
