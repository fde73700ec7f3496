/- The language's words, as a list of texts in rising order; how a binary search goes over such a list. No program in sight. -/
import GoSem.Op.String
import Derived.Below
import Derived.Lib.Strings
namespace Go.Proofs.YtjmgfhbadnechaaDoor.Plo

theorem bl_eq : ∀ (x y : List UInt8), Op.bytesLess x y = decide (x < y)
  | [], [] => by simp [Op.bytesLess]
  | _ :: _, [] => by simp [Op.bytesLess]
  | [], _ :: _ => by simp [Op.bytesLess]
  | a :: x, b :: y => by
    rw [Op.bytesLess, bl_eq x y]
    simp only [List.cons_lt_cons_iff]
    by_cases h1 : a < b <;> by_cases h2 : a = b <;> by_cases h3 : x < y <;> simp [h1, h2, h3]
def less (a b : ByteArray) : Bool := Op.bytesLess a.toList b.toList
theorem less_trans {a b c : ByteArray} (h : less a b = true) (k : less b c = true) : less a c = true := by
  unfold less at *
  rw [bl_eq, decide_eq_true_eq] at *
  exact List.lt_trans h k
theorem less_irrefl (a : ByteArray) : less a a = false := by
  unfold less
  rw [bl_eq, decide_eq_false_iff_not]
  exact List.lt_irrefl _

/-- A list rises. -/
def Rises (l : List ByteArray) : Prop := ∀ i j, i < j → (hj : j < l.length) → less (l.getD i ByteArray.empty) (l.getD j ByteArray.empty) = true
/-- What a binary search knows of its bounds. -/
def Bounds (l : List ByteArray) (x : ByteArray) (lo hi : Nat) : Prop := lo ≤ hi ∧ hi ≤ l.length ∧ (∀ k, k < lo → less (l.getD k ByteArray.empty) x = true) ∧ ∀ k, hi ≤ k → k < l.length → less (l.getD k ByteArray.empty) x = false
theorem Bounds.start (l : List ByteArray) (x : ByteArray) : Bounds l x 0 l.length := ⟨Nat.zero_le _, Nat.le_refl _, fun _ h => by omega, fun _ _ h => by omega⟩
theorem Bounds.up {l : List ByteArray} {x : ByteArray} {lo hi h : Nat} (hr : Rises l) (b : Bounds l x lo hi) (h1 : lo ≤ h) (h2 : h < hi) (hx : less (l.getD h ByteArray.empty) x = true) : Bounds l x (h + 1) hi := by
  refine ⟨by omega, b.2.1, fun k hk => ?_, b.2.2.2⟩
  by_cases e : k = h
  · subst e; exact hx
  · exact less_trans (hr k h (by omega) (by have := b.2.1; omega)) hx
theorem Bounds.down {l : List ByteArray} {x : ByteArray} {lo hi h : Nat} (hr : Rises l) (b : Bounds l x lo hi) (h1 : lo ≤ h) (h2 : h < hi) (hx : less (l.getD h ByteArray.empty) x = false) : Bounds l x lo h := by
  refine ⟨h1, by have := b.2.1; omega, b.2.2.1, fun k hk hkl => ?_⟩
  by_cases e : k = h
  · subst e; exact hx
  · cases hc : less (l.getD k ByteArray.empty) x with
    | false => rfl
    | true => rw [less_trans (hr h k (by omega) hkl) hc] at hx; exact absurd hx (by decide)
theorem getD_mem {l : List ByteArray} {k : Nat} (h : k < l.length) : l.getD k ByteArray.empty ∈ l := by
  rw [List.getD_eq_getElem?_getD, List.getElem?_eq_getElem h]; exact List.getElem_mem h
theorem mem_getD {l : List ByteArray} {x : ByteArray} (h : x ∈ l) : ∃ k, k < l.length ∧ l.getD k ByteArray.empty = x := by
  obtain ⟨k, hk, e⟩ := List.mem_iff_getElem.1 h
  exact ⟨k, hk, by rw [List.getD_eq_getElem?_getD, List.getElem?_eq_getElem hk]; exact e⟩
theorem Bounds.absent {l : List ByteArray} {x : ByteArray} {lo hi : Nat} (hr : Rises l) (b : Bounds l x lo hi) (e : hi = lo) (h : lo < l.length → l.getD lo ByteArray.empty ≠ x) : x ∉ l := by
  intro hm
  obtain ⟨k, hk, rfl⟩ := mem_getD hm
  subst e
  rcases Nat.lt_trichotomy k hi with h1 | h1 | h1
  · have := b.2.2.1 k h1
    rw [less_irrefl] at this; exact absurd this (by decide)
  · subst h1; exact h hk rfl
  · have h2 := b.2.2.2 hi (Nat.le_refl _) (by omega)
    rw [hr hi k h1 hk] at h2; exact absurd h2 (by decide)

/-- The words. -/
def words : List ByteArray := [⟨#[77, 117, 116, 101, 120]⟩, ⟨#[87, 97, 105, 116, 71, 114, 111, 117, 112]⟩, ⟨#[98, 111, 111, 108]⟩, ⟨#[98, 114, 101, 97, 107]⟩, ⟨#[99, 97, 112]⟩, ⟨#[99, 97, 115, 101]⟩, ⟨#[99, 104, 97, 110]⟩, ⟨#[99, 108, 111, 115, 101]⟩, ⟨#[99, 111, 110, 116, 105, 110, 117, 101]⟩, ⟨#[100, 101, 102, 97, 117, 108, 116]⟩, ⟨#[101, 108, 115, 101]⟩, ⟨#[102, 97, 108, 115, 101]⟩, ⟨#[102, 111, 114]⟩, ⟨#[102, 117, 110, 99]⟩, ⟨#[103, 111]⟩, ⟨#[105, 102]⟩, ⟨#[105, 110, 116]⟩, ⟨#[108, 101, 110]⟩, ⟨#[109, 97, 107, 101]⟩, ⟨#[110, 105, 108]⟩, ⟨#[112, 114, 105, 110, 116, 108, 110]⟩, ⟨#[114, 97, 110, 103, 101]⟩, ⟨#[114, 101, 116, 117, 114, 110]⟩, ⟨#[115, 101, 108, 101, 99, 116]⟩, ⟨#[115, 119, 105, 116, 99, 104]⟩, ⟨#[116, 114, 117, 101]⟩, ⟨#[118, 97, 114]⟩, ⟨#[121, 105, 101, 108, 100]⟩]
theorem words_length : words.length = 28 := rfl
theorem words_rise : Rises words := by
  have h : (List.range words.length).all (fun j => (List.range j).all (fun i => less (words.getD i ByteArray.empty) (words.getD j ByteArray.empty))) = true := by decide +kernel
  intro i j hij hj
  rw [List.all_eq_true] at h
  have h2 := h j (List.mem_range.2 hj)
  rw [List.all_eq_true] at h2
  exact h2 i (List.mem_range.2 hij)
theorem ba_ext {x y : ByteArray} (h : x.data.toList = y.data.toList) : x = y := by
  cases x with
  | mk xd => cases y with
    | mk yd => exact congrArg ByteArray.mk (Array.toList_inj.1 h)
/-- Is a text one of them? -/
def isWord (x : ByteArray) : Bool := words.any (fun y => y.data.toList == x.data.toList)
theorem isWord_iff (x : ByteArray) : isWord x = true ↔ x ∈ words := by
  unfold isWord
  rw [List.any_eq_true]
  constructor
  · rintro ⟨y, hy, e⟩
    rw [← ba_ext (eq_of_beq e)]; exact hy
  · intro h
    exact ⟨x, h, beq_self_eq_true _⟩
theorem isWord_true {x : ByteArray} (h : x ∈ words) : isWord x = true := (isWord_iff x).2 h
theorem isWord_false {x : ByteArray} (h : x ∉ words) : isWord x = false := by
  cases e : isWord x with
  | false => rfl
  | true => exact absurd ((isWord_iff x).1 e) h
theorem toList_ne {x y : ByteArray} (h : x ≠ y) : (x.toList == y.toList) = false := by
  rw [beq_eq_false_iff_ne]
  intro e
  apply h
  rw [Lib.toList_data, Lib.toList_data] at e
  exact ba_ext e
end Go.Proofs.YtjmgfhbadnechaaDoor.Plo
