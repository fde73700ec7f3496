/- A part of the proof; several texts in one file. -/
import Derived.Below
import GoSem.Op.String
import Derived.Lib.Strings
import Derived.Test.YtgodeffkboihlaaGreatDoorProg
import Derived.WalkKit
import Derived.WalkLawsBesides
import Derived.KernelRfl
import Derived.BigQuiet
import Derived.Deep.QuietTactic
import Derived.Lib.Hide
import Derived.Deep.LoopGhost
import Derived.Deep.Draws
import Derived.Outline
import Derived.Test.YtgodeffkboihlaaGreatDoorShelf
import Derived.Shelf.Strings.SlTrimAscii
import Derived.Test.YtgodeffkboihlaaGreatDoorTrh
/- Plain facts about texts as the language writes them (words.Quote, words.Unquote): no program in sight. -/
namespace Go.Proofs.YtgodeffkboihlaaGreatDoor.Plw

/-- How one byte is written inside quotes. -/
def esc (c : UInt8) : List UInt8 := if c = 10 then [92, 110] else if c = 9 then [92, 116] else if c = 34 then [92, 34] else if c = 92 then [92, 92] else [c]
def escs (l : List UInt8) : List UInt8 := l.flatMap esc
/-- A text in quotes. -/
def quote (l : List UInt8) : List UInt8 := [34] ++ escs l ++ [34]

theorem esc_le (c : UInt8) : (esc c).length ≤ 2 := by unfold esc; repeat' split
                                                      all_goals simp
theorem escs_le (l : List UInt8) : (escs l).length ≤ 2 * l.length := by
  induction l with
  | nil => simp [escs]
  | cons c r ih => have := esc_le c; simp only [escs, List.flatMap_cons, List.length_append, List.length_cons] at *; omega
theorem escs_snoc (l : List UInt8) (c : UInt8) : escs (l ++ [c]) = escs l ++ esc c := by simp [escs]
theorem escs_nil : escs [] = [] := rfl

/-- What stands for a byte behind a backslash. -/
def meant (c : UInt8) : Option UInt8 := if c = 92 then some 92 else if c = 34 then some 34 else if c = 110 then some 10 else if c = 116 then some 9 else none

/-- The text's rest, behind i bytes, acc being what was read: the text and where it ends. -/
def body : List UInt8 → List UInt8 → Nat → Option (List UInt8 × Nat)
  | [], _, _ => none
  | c :: r, acc, i =>
    if c = 34 then some (acc, i + 1)
    else if c = 10 then none
    else if c = 92 then
      match r with
      | [] => none
      | d :: r' => match meant d with
        | none => none
        | some m => body r' (acc ++ [m]) (i + 2)
    else body r (acc ++ [c]) (i + 1)
/-- The text that l begins with, and how many bytes it takes. -/
def unquote (l : List UInt8) : Option (List UInt8 × Nat) := match l with
  | [] => none
  | c :: r => if c = 34 then body r [] 1 else none

theorem body_nil (acc : List UInt8) (i : Nat) : body [] acc i = none := by rw [body.eq_def]
theorem body_quote (r acc : List UInt8) (i : Nat) : body (34 :: r) acc i = some (acc, i + 1) := by rw [body.eq_def]; simp
theorem body_line (r acc : List UInt8) (i : Nat) : body (10 :: r) acc i = none := by rw [body.eq_def]; simp
theorem body_end (acc : List UInt8) (i : Nat) : body [92] acc i = none := by rw [body.eq_def]; simp
theorem body_bad (d : UInt8) (r acc : List UInt8) (i : Nat) (h : meant d = none) : body (92 :: d :: r) acc i = none := by rw [body.eq_def]; simp [h]
theorem body_good (d m : UInt8) (r acc : List UInt8) (i : Nat) (h : meant d = some m) : body (92 :: d :: r) acc i = body r (acc ++ [m]) (i + 2) := by rw [body.eq_def]; simp [h]
theorem body_plain (c : UInt8) (r acc : List UInt8) (i : Nat) (h1 : c ≠ 34) (h2 : c ≠ 10) (h3 : c ≠ 92) : body (c :: r) acc i = body r (acc ++ [c]) (i + 1) := by rw [body.eq_def]; simp [h1, h2, h3]

end Go.Proofs.YtgodeffkboihlaaGreatDoor.Plw

/- The language's words, as a list of texts in rising order; how a binary search goes over such a list. No program in sight. -/
namespace Go.Proofs.YtgodeffkboihlaaGreatDoor.Plo

theorem bl_eq : ∀ (x y : List UInt8), Op.bytesLess x y = decide (x < y)
  | [], [] => by simp [Op.bytesLess]
  | _ :: _, [] => by simp [Op.bytesLess]
  | [], _ :: _ => by simp [Op.bytesLess]
  | a :: x, b :: y => by
    rw [Op.bytesLess, bl_eq x y]
    simp only [List.cons_lt_cons_iff]
    by_cases h1 : a < b <;> by_cases h2 : a = b <;> by_cases h3 : x < y <;> simp [h1, h2, h3]
def less (a b : ByteArray) : Bool := Op.bytesLess a.toList b.toList
theorem less_trans {a b c : ByteArray} (h : less a b = true) (k : less b c = true) : less a c = true := by
  unfold less at *
  rw [bl_eq, decide_eq_true_eq] at *
  exact List.lt_trans h k
theorem less_irrefl (a : ByteArray) : less a a = false := by
  unfold less
  rw [bl_eq, decide_eq_false_iff_not]
  exact List.lt_irrefl _

/-- A list rises. -/
def Rises (l : List ByteArray) : Prop := ∀ i j, i < j → (hj : j < l.length) → less (l.getD i ByteArray.empty) (l.getD j ByteArray.empty) = true
/-- What a binary search knows of its bounds. -/
def Bounds (l : List ByteArray) (x : ByteArray) (lo hi : Nat) : Prop := lo ≤ hi ∧ hi ≤ l.length ∧ (∀ k, k < lo → less (l.getD k ByteArray.empty) x = true) ∧ ∀ k, hi ≤ k → k < l.length → less (l.getD k ByteArray.empty) x = false
theorem Bounds.start (l : List ByteArray) (x : ByteArray) : Bounds l x 0 l.length := ⟨Nat.zero_le _, Nat.le_refl _, fun _ h => by omega, fun _ _ h => by omega⟩
theorem Bounds.up {l : List ByteArray} {x : ByteArray} {lo hi h : Nat} (hr : Rises l) (b : Bounds l x lo hi) (h1 : lo ≤ h) (h2 : h < hi) (hx : less (l.getD h ByteArray.empty) x = true) : Bounds l x (h + 1) hi := by
  refine ⟨by omega, b.2.1, fun k hk => ?_, b.2.2.2⟩
  by_cases e : k = h
  · subst e; exact hx
  · exact less_trans (hr k h (by omega) (by have := b.2.1; omega)) hx
theorem Bounds.down {l : List ByteArray} {x : ByteArray} {lo hi h : Nat} (hr : Rises l) (b : Bounds l x lo hi) (h1 : lo ≤ h) (h2 : h < hi) (hx : less (l.getD h ByteArray.empty) x = false) : Bounds l x lo h := by
  refine ⟨h1, by have := b.2.1; omega, b.2.2.1, fun k hk hkl => ?_⟩
  by_cases e : k = h
  · subst e; exact hx
  · cases hc : less (l.getD k ByteArray.empty) x with
    | false => rfl
    | true => rw [less_trans (hr h k (by omega) hkl) hc] at hx; exact absurd hx (by decide)
theorem getD_mem {l : List ByteArray} {k : Nat} (h : k < l.length) : l.getD k ByteArray.empty ∈ l := by
  rw [List.getD_eq_getElem?_getD, List.getElem?_eq_getElem h]; exact List.getElem_mem h
theorem mem_getD {l : List ByteArray} {x : ByteArray} (h : x ∈ l) : ∃ k, k < l.length ∧ l.getD k ByteArray.empty = x := by
  obtain ⟨k, hk, e⟩ := List.mem_iff_getElem.1 h
  exact ⟨k, hk, by rw [List.getD_eq_getElem?_getD, List.getElem?_eq_getElem hk]; exact e⟩
theorem Bounds.absent {l : List ByteArray} {x : ByteArray} {lo hi : Nat} (hr : Rises l) (b : Bounds l x lo hi) (e : hi = lo) (h : lo < l.length → l.getD lo ByteArray.empty ≠ x) : x ∉ l := by
  intro hm
  obtain ⟨k, hk, rfl⟩ := mem_getD hm
  subst e
  rcases Nat.lt_trichotomy k hi with h1 | h1 | h1
  · have := b.2.2.1 k h1
    rw [less_irrefl] at this; exact absurd this (by decide)
  · subst h1; exact h hk rfl
  · have h2 := b.2.2.2 hi (Nat.le_refl _) (by omega)
    rw [hr hi k h1 hk] at h2; exact absurd h2 (by decide)

/-- The words. -/
def words : List ByteArray := [⟨#[77, 117, 116, 101, 120]⟩, ⟨#[87, 97, 105, 116, 71, 114, 111, 117, 112]⟩, ⟨#[98, 111, 111, 108]⟩, ⟨#[98, 114, 101, 97, 107]⟩, ⟨#[99, 97, 112]⟩, ⟨#[99, 97, 115, 101]⟩, ⟨#[99, 104, 97, 110]⟩, ⟨#[99, 108, 111, 115, 101]⟩, ⟨#[99, 111, 110, 116, 105, 110, 117, 101]⟩, ⟨#[100, 101, 102, 97, 117, 108, 116]⟩, ⟨#[101, 108, 115, 101]⟩, ⟨#[102, 97, 108, 115, 101]⟩, ⟨#[102, 111, 114]⟩, ⟨#[102, 117, 110, 99]⟩, ⟨#[103, 111]⟩, ⟨#[105, 102]⟩, ⟨#[105, 110, 116]⟩, ⟨#[108, 101, 110]⟩, ⟨#[109, 97, 107, 101]⟩, ⟨#[110, 105, 108]⟩, ⟨#[112, 114, 105, 110, 116, 108, 110]⟩, ⟨#[114, 97, 110, 103, 101]⟩, ⟨#[114, 101, 116, 117, 114, 110]⟩, ⟨#[115, 101, 108, 101, 99, 116]⟩, ⟨#[115, 119, 105, 116, 99, 104]⟩, ⟨#[116, 114, 117, 101]⟩, ⟨#[118, 97, 114]⟩, ⟨#[121, 105, 101, 108, 100]⟩]
theorem words_length : words.length = 28 := rfl
theorem words_rise : Rises words := by
  have h : (List.range words.length).all (fun j => (List.range j).all (fun i => less (words.getD i ByteArray.empty) (words.getD j ByteArray.empty))) = true := by decide +kernel
  intro i j hij hj
  rw [List.all_eq_true] at h
  have h2 := h j (List.mem_range.2 hj)
  rw [List.all_eq_true] at h2
  exact h2 i (List.mem_range.2 hij)
theorem ba_ext {x y : ByteArray} (h : x.data.toList = y.data.toList) : x = y := by
  cases x with
  | mk xd => cases y with
    | mk yd => exact congrArg ByteArray.mk (Array.toList_inj.1 h)
/-- Is a text one of them? -/
def isWord (x : ByteArray) : Bool := words.any (fun y => y.data.toList == x.data.toList)
theorem isWord_iff (x : ByteArray) : isWord x = true ↔ x ∈ words := by
  unfold isWord
  rw [List.any_eq_true]
  constructor
  · rintro ⟨y, hy, e⟩
    rw [← ba_ext (eq_of_beq e)]; exact hy
  · intro h
    exact ⟨x, h, beq_self_eq_true _⟩
theorem isWord_true {x : ByteArray} (h : x ∈ words) : isWord x = true := (isWord_iff x).2 h
theorem isWord_false {x : ByteArray} (h : x ∉ words) : isWord x = false := by
  cases e : isWord x with
  | false => rfl
  | true => exact absurd ((isWord_iff x).1 e) h
theorem toList_ne {x y : ByteArray} (h : x ≠ y) : (x.toList == y.toList) = false := by
  rw [beq_eq_false_iff_ne]
  intro e
  apply h
  rw [Lib.toList_data, Lib.toList_data] at e
  exact ba_ext e
end Go.Proofs.YtgodeffkboihlaaGreatDoor.Plo

/- words.Words, words.Word and the binary search that it calls; drowseref02.Words, drowseref02.Word. -/
set_option linter.unusedVariables false
namespace Go.Proofs.YtgodeffkboihlaaGreatDoor.Wrd
open Go.RowKit

/-- The cells of the list of words. -/
def wordCells : Array Value := (Plo.words.map Value.string).toArray

set_option maxHeartbeats 1000000 in
set_option maxRecDepth 100000 in
theorem words_any (w : World) : Calls Tryz.prog 91 #[] w fun e w' => e = .returned (.slice (some ⟨w.heap.size, 0, none⟩) 28 28) ∧ w' = w.alloc (.cells wordCells 9) := by
  go_enter Tryz.func91, Tryz.ntmps91
  go_wp2
  go_ret
  exact ⟨rfl, rfl⟩

/-- A slice of strings reads l. -/
def Strs (w : World) (b : Nat) (l : List ByteArray) : Prop := ∀ j, j < l.length → w.cell? ⟨b, j, none⟩ = some (.string (l.getD j ByteArray.empty))
theorem strs_new (w : World) (l : List ByteArray) (T : TypeId) : Strs (w.alloc (.cells (l.map Value.string).toArray T)) w.heap.size l := by
  intro j hj
  rw [World.cell?_alloc_at _ _ _ _ rfl]
  simp [hj]

theorem isNaN_cmp (x : ByteArray) (w : World) : Calls Tryz.prog 150 #[.string x] w fun e w' => e = .returned (.bool false) ∧ w = w' := by
  go_enter Tryz.func150, Tryz.ntmps150
  go_wp2
  go_ret
  exact ⟨by simp, rfl⟩
theorem isNaN_slices (x : ByteArray) (w : World) : Calls Tryz.prog 136 #[.string x] w fun e w' => e = .returned (.bool false) ∧ w = w' := by
  go_enter Tryz.func136, Tryz.ntmps136
  go_wp2
  go_ret
  exact ⟨by simp, rfl⟩
theorem less_cmp (x y : ByteArray) (w : World) : Calls Tryz.prog 135 #[.string x, .string y] w fun e w' => e = .returned (.bool (Plo.less x y)) ∧ w = w' := by
  go_enter Tryz.func135, Tryz.ntmps135
  go_wp2_with (go_at_call 150; refine (isNaN_cmp _ _).mono ?_; rintro e w' ⟨rfl, rfl⟩)
  go_ret
  exact ⟨rfl, rfl⟩

/-- How a binary search ends. -/
def Found (r : Bool) (w : World) (e : Ending) (w' : World) : Prop := (∃ i : Int, e = .returned (.tuple #[.int .i64 i, .bool r])) ∧ Below w.heap.size w w'
theorem below_drewN (w : World) (n : Nat) : Below w.heap.size w (w.drewN n) := by
  induction n with
  | zero => exact Below.refl _ _
  | succ n ih => rw [← World.drew_drewN]; exact ih.drew

set_option maxHeartbeats 4000000 in
set_option maxRecDepth 100000 in
theorem search (b c : Nat) (l : List ByteArray) (x : ByteArray) (w : World) (hr : Plo.Rises l) (hbig : l.length < 1000) (hc : Strs w b l) (r : Bool) (hrt : x ∈ l → r = true) (hrf : x ∉ l → r = false) :
    Calls Tryz.prog 90 #[.slice (some ⟨b, 0, none⟩) l.length c, .string x] w (Found r w) := by
  go_enter Tryz.func90, Tryz.ntmps90
  go_wp2
  go_loopw [7, 8] (fun s7 s8 wr => ∃ lo hi q : Nat, s7 = .int .i64 lo ∧ s8 = .int .i64 hi ∧ Plo.Bounds l x lo hi ∧ wr = w.drewN q) (fun s7 s8 _ => (intOf s8).toNat - (intOf s7).toNat)
  case atStart => exact ⟨0, l.length, 0, rfl, rfl, Plo.Bounds.start l x, rfl⟩
  case round =>
    obtain ⟨lo, hi, q, rfl, rfl, hB, rfl⟩ := hrel
    have hlh := hB.1
    have hin := hB.2.1
    have HB := Lib.hid hB
    clear hB
    by_cases hlt : lo < hi
    · have cm : w.cell? ⟨b, (lo + hi) / 2, none⟩ = some (.string (l.getD ((lo + hi) / 2) ByteArray.empty)) := hc _ (by omega)
      clear hc
      obtain ⟨y, hy⟩ : ∃ y, l.getD ((lo + hi) / 2) ByteArray.empty = y := ⟨_, rfl⟩
      rw [hy] at cm
      have HY := Lib.hid hy
      clear hy
      cases hyx : Plo.less y x
      · have HX := Lib.hid hyx
        go_wp2_with (first | (go_at_call 135; refine (less_cmp _ _ _).mono ?_; rintro e w' ⟨rfl, rfl⟩) | (go_at_call 136; refine (isNaN_slices _ _).mono ?_; rintro e w' ⟨rfl, rfl⟩))
        go_roundw
        case rel => exact ⟨lo, (lo + hi) / 2, _, rfl, by rw [show ((lo : Int) + (hi : Int)) / 2 = (((lo + hi) / 2 : Nat) : Int) by omega], HB.out.down hr (by omega) (by omega) (by rw [HY.out]; exact HX.out), rfl⟩
        case measure => simp [intOf]; omega
      · have HX := Lib.hid hyx
        go_wp2_with (first | (go_at_call 135; refine (less_cmp _ _ _).mono ?_; rintro e w' ⟨rfl, rfl⟩) | (go_at_call 136; refine (isNaN_slices _ _).mono ?_; rintro e w' ⟨rfl, rfl⟩))
        go_roundw
        case rel => exact ⟨(lo + hi) / 2 + 1, hi, _, by rw [show ((lo : Int) + (hi : Int)) / 2 + 1 = (((lo + hi) / 2 + 1 : Nat) : Int) by omega], rfl, HB.out.up hr (by omega) (by omega) (by rw [HY.out]; exact HX.out), rfl⟩
        case measure => simp [intOf]; omega
    · have : hi = lo := by omega
      subst this
      by_cases hn : hi < l.length
      · have cl : w.cell? ⟨b, hi, none⟩ = some (.string (l.getD hi ByteArray.empty)) := hc _ hn
        clear hc
        obtain ⟨y, hy⟩ : ∃ y, l.getD hi ByteArray.empty = y := ⟨_, rfl⟩
        rw [hy] at cl
        by_cases hyx : y = x
        · have HR : Hid (r = true) := hrt (by rw [← hyx, ← hy]; exact Plo.getD_mem hn)
          subst hyx
          clear hy hrt hrf
          go_wp2_with (go_at_call 136; refine (isNaN_slices _ _).mono ?_; rintro e w' ⟨rfl, rfl⟩)
          go_ret2
          exact ⟨⟨hi, by rw [HR.out]; first | rfl | simp⟩, below_drewN _ _⟩
        · have HR : Hid (r = false) := hrf (HB.out.absent hr rfl (fun _ => by rw [hy]; exact hyx))
          have hne := Plo.toList_ne hyx
          clear hy hyx hrt hrf
          go_wp2_with (go_at_call 136; refine (isNaN_slices _ _).mono ?_; rintro e w' ⟨rfl, rfl⟩)
          all_goals
            go_ret2
            exact ⟨⟨hi, by rw [HR.out]; first | rfl | simp [hne]⟩, below_drewN _ _⟩
      · have HR : Hid (r = false) := hrf (HB.out.absent hr rfl (fun h => absurd h hn))
        clear hc hrt hrf
        go_wp2_with (go_at_call 136; refine (isNaN_slices _ _).mono ?_; rintro e w' ⟨rfl, rfl⟩)
        go_ret2
        exact ⟨⟨hi, by rw [HR.out]; first | rfl | simp⟩, below_drewN _ _⟩

set_option maxHeartbeats 1000000 in
set_option maxRecDepth 100000 in
theorem word_any (x : ByteArray) (w : World) : Calls Tryz.prog 59 #[.string x] w fun e w' => e = .returned (.bool (Plo.isWord x)) ∧ Below w.heap.size w w' := by
  go_enter Tryz.func59, Tryz.ntmps59
  go_wp2_with fail
  refine (words_any w).mono ?_
  rintro e w1 ⟨rfl, rfl⟩
  go_wp2_with fail
  refine (search w.heap.size 28 Plo.words x _ Plo.words_rise (by rw [Plo.words_length]; omega) (strs_new w Plo.words 9) (Plo.isWord x) Plo.isWord_true Plo.isWord_false).mono ?_
  rintro e w2 ⟨⟨i, rfl⟩, hb⟩
  go_wp2
  go_ret
  exact ⟨rfl, ((Below.refl _ w).alloc (Nat.le_refl _) _).trans (hb.mono (by simp))⟩

set_option maxHeartbeats 1000000 in
set_option maxRecDepth 100000 in
theorem rwords_any (w : World) : Calls Tryz.prog 127 #[] w fun e w' => e = .returned (.slice (some ⟨w.heap.size, 0, none⟩) 28 28) ∧ w' = w.alloc (.cells wordCells 9) := by
  go_enter Tryz.func127, Tryz.ntmps127
  go_wp2
  go_ret
  exact ⟨rfl, rfl⟩

set_option maxHeartbeats 2000000 in
set_option maxRecDepth 100000 in
theorem rword_any (x : ByteArray) (w : World) : Calls Tryz.prog 82 #[.string x] w fun e w' => e = .returned (.bool (Plo.isWord x)) ∧ Below w.heap.size w w' := by
  go_enter Tryz.func82, Tryz.ntmps82
  go_wp2_with fail
  refine (rwords_any w).mono ?_
  rintro e w1 ⟨rfl, rfl⟩
  go_wp2
  go_loopw [4] (fun i wr => ∃ k q : Nat, k ≤ 28 ∧ i = .int .i64 k ∧ (∀ j, j < k → Plo.words.getD j ByteArray.empty ≠ x) ∧ wr = (w.alloc (.cells wordCells 9)).drewN q) (fun i _ => 28 - (intOf i).toNat)
  case atStart => exact ⟨0, 0, by omega, rfl, fun j h => by omega, rfl⟩
  case round =>
    obtain ⟨k, q, hk, rfl, hn, rfl⟩ := hrel
    have HN := Lib.hid hn
    clear hn
    by_cases hlt : k < 28
    · have cm := strs_new w Plo.words 9 k (by rw [Plo.words_length]; exact hlt)
      obtain ⟨y, hy⟩ : ∃ y, Plo.words.getD k ByteArray.empty = y := ⟨_, rfl⟩
      rw [hy] at cm
      change (w.alloc (.cells wordCells 9)).cell? _ = _ at cm
      by_cases hyx : y = x
      · have HR : Hid (Plo.isWord x = true) := Plo.isWord_true (by rw [← hyx, ← hy]; exact Plo.getD_mem (by rw [Plo.words_length]; exact hlt))
        subst hyx
        clear hy
        go_wp2
        go_ret
        exact ⟨by rw [HR.out]; rfl, ((Below.refl _ w).alloc (Nat.le_refl _) _).trans ((below_drewN _ q).mono (by simp))⟩
      · have hne := Plo.toList_ne hyx
        have HT : Hid (∀ j, j < k + 1 → Plo.words.getD j ByteArray.empty ≠ x) := by
          intro j hj
          by_cases e : j = k
          · rw [e, hy]; exact hyx
          · exact HN.out j (by omega)
        clear hy hyx HN
        go_wp2
        go_roundw
        case rel => exact ⟨k + 1, q, by omega, by go_num, HT.out, rfl⟩
        case measure => simp [intOf]; omega
    · have HR : Hid (Plo.isWord x = false) := by
        apply Plo.isWord_false
        intro hm
        obtain ⟨j, hj, e⟩ := Plo.mem_getD hm
        rw [Plo.words_length] at hj
        exact HN.out j (by omega) e
      clear HN
      go_wp2
      go_ret
      exact ⟨by rw [HR.out]; rfl, ((Below.refl _ w).alloc (Nat.le_refl _) _).trans ((below_drewN _ q).mono (by simp))⟩
end Go.Proofs.YtgodeffkboihlaaGreatDoor.Wrd

/- words.Name and drowseref02.Name: for every text of at most 2^45 bytes both answer whether it is a name. -/
set_option linter.unusedVariables false
namespace Go.Proofs.YtgodeffkboihlaaGreatDoor.Nam
open Go.RowKit Wrd

/-- A digit; a byte of a name. -/
def digit (c : UInt8) : Bool := decide (48 ≤ c.toNat ∧ c.toNat ≤ 57)
def letter (c : UInt8) : Bool := decide (65 ≤ c.toNat ∧ c.toNat ≤ 90 ∨ 97 ≤ c.toNat ∧ c.toNat ≤ 122 ∨ c.toNat = 95)
def alnum (c : UInt8) : Bool := letter c || digit c
/-- Is a text a name? -/
def isName (x : ByteArray) : Bool := decide (1 ≤ x.size) && decide (x.size ≤ 30) && !(x.data.toList.take 1).any digit && x.data.toList.all alnum && !Plo.isWord x

def cutset : List UInt8 := [48, 49, 50, 51, 52, 53, 54, 55, 56, 57, 95, 97, 98, 99, 100, 101, 102, 103, 104, 105, 106, 107, 108, 109, 110, 111, 112, 113, 114, 115, 116, 117, 118, 119, 120, 121, 122, 65, 66, 67, 68, 69, 70, 71, 72, 73, 74, 75, 76, 77, 78, 79, 80, 81, 82, 83, 84, 85, 86, 87, 88, 89, 90]
theorem cutset_is (c : UInt8) : cutset.contains c = alnum c := by
  have h : (List.range 256).all (fun n => cutset.contains (UInt8.ofNat n) == alnum (UInt8.ofNat n)) = true := by decide +kernel
  rw [List.all_eq_true] at h
  have := h c.toNat (List.mem_range.2 c.toNat_lt)
  rw [UInt8.ofNat_toNat] at this
  exact eq_of_beq this

theorem dropWhile_nil {p : UInt8 → Bool} : ∀ l : List UInt8, l.dropWhile p = [] ↔ l.all p = true
  | [] => by simp
  | c :: r => by
    rw [List.dropWhile_cons, List.all_cons, Bool.and_eq_true]
    cases hc : p c
    · simp
    · simp only [if_true, true_and]; exact dropWhile_nil r
theorem dropWhile_not {p : UInt8 → Bool} : ∀ l : List UInt8, l.all p = false → ∃ c r, l.dropWhile p = c :: r ∧ p c = false
  | [], h => by simp at h
  | c :: r, h => by
    rw [List.dropWhile_cons]
    cases hc : p c
    · exact ⟨c, r, by simp, hc⟩
    · rw [List.all_cons, hc, Bool.true_and] at h
      simpa using dropWhile_not r h
theorem trim_nil (l cs : List UInt8) : Lib.trimS l cs = [] ↔ l.all (cs.contains ·) = true := by
  unfold Lib.trimS Lib.trimLeftS Lib.trimRightS
  rw [dropWhile_nil, List.all_reverse]
  constructor
  · intro h
    cases ha : l.all (cs.contains ·) with
    | true => rfl
    | false =>
      exfalso
      obtain ⟨c, r, hd, hc⟩ := dropWhile_not (p := (cs.contains ·)) l.reverse (by rw [List.all_reverse]; exact ha)
      rw [hd, List.all_cons, hc] at h
      simp at h
  · intro h
    rw [(dropWhile_nil (p := (cs.contains ·)) l.reverse).2 (by rw [List.all_reverse]; exact h)]
    rfl
theorem trim_is (s : ByteArray) : (Lib.trimS s.data.toList cutset).isEmpty = s.data.toList.all alnum := by
  have e : (fun c => cutset.contains c) = alnum := funext cutset_is
  rw [Bool.eq_iff_iff, List.isEmpty_iff, trim_nil, e]

set_option maxHeartbeats 1000000 in
theorem trim_any (s : ByteArray) (w : World) (hs : s.size ≤ 35184372088832) :
    Calls Tryz.prog 60 #[.string s, .string ⟨#[48, 49, 50, 51, 52, 53, 54, 55, 56, 57, 95, 97, 98, 99, 100, 101, 102, 103, 104, 105, 106, 107, 108, 109, 110, 111, 112, 113, 114, 115, 116, 117, 118, 119, 120, 121, 122, 65, 66, 67, 68, 69, 70, 71, 72, 73, 74, 75, 76, 77, 78, 79, 80, 81, 82, 83, 84, 85, 86, 87, 88, 89, 90]⟩] w fun e w' => e = .returned (.string ⟨(Lib.trimS s.data.toList cutset).toArray⟩) ∧ Below w.heap.size w w' :=
  Any.strings_Trim_laid Tryz.lays160 (by kernel_rfl) s ⟨#[48, 49, 50, 51, 52, 53, 54, 55, 56, 57, 95, 97, 98, 99, 100, 101, 102, 103, 104, 105, 106, 107, 108, 109, 110, 111, 112, 113, 114, 115, 116, 117, 118, 119, 120, 121, 122, 65, 66, 67, 68, 69, 70, 71, 72, 73, 74, 75, 76, 77, 78, 79, 80, 81, 82, 83, 84, 85, 86, 87, 88, 89, 90]⟩ w (by omega) (by decide) (ascii_of_all (by decide))

theorem name_no {x : ByteArray} (h : x.size = 0 ∨ 30 < x.size ∨ (x.data.toList.take 1).any digit = true ∨ Plo.isWord x = true) : isName x = false := by
  unfold isName
  rcases h with h | h | h | h
  · simp [h]
  · have : ¬ x.size ≤ 30 := by omega
    simp [this]
  · simp [h]
  · simp [h]
theorem name_yes {x : ByteArray} (h1 : x.size ≠ 0) (h2 : x.size ≤ 30) (h3 : (x.data.toList.take 1).any digit = false) (h4 : Plo.isWord x = false) : isName x = x.data.toList.all alnum := by
  unfold isName
  have e1 : decide (1 ≤ x.size) = true := decide_eq_true (by omega)
  have e2 : decide (x.size ≤ 30) = true := decide_eq_true h2
  rw [e1, e2, h3, h4]
  simp
theorem take_one (s : ByteArray) (h : 0 < s.size) : s.data.toList.take 1 = [s[0]] := by
  rw [List.take_succ_eq_append_getElem (by simpa using h)]; rfl

theorem word_is (x : ByteArray) (r : Bool) (w : World) (h : Plo.isWord x = r) : Calls Tryz.prog 59 #[.string x] w fun e w' => e = .returned (.bool r) ∧ Below w.heap.size w w' := by
  subst h; exact word_any x w

set_option maxHeartbeats 4000000 in
set_option maxRecDepth 100000 in
theorem name_any (s : ByteArray) (w : World) (hs : s.size ≤ 35184372088832) :
    Calls Tryz.prog 48 #[.string s] w fun e w' => e = .returned (.bool (isName s)) ∧ Below w.heap.size w w' := by
  by_cases h0 : s.size = 0
  · have HR : Hid (isName s = false) := name_no (.inl h0)
    have he : s.toList = [] := by rw [Lib.toList_data]; exact List.length_eq_zero_iff.1 h0
    go_enter Tryz.func48, Tryz.ntmps48
    go_wp2
    go_ret
    exact ⟨by rw [HR.out]; rfl, Below.refl _ _⟩
  · have hne : s.toList.isEmpty = false := by
      rw [Lib.toList_data, List.isEmpty_eq_false_iff]
      intro h; exact h0 (List.length_eq_zero_iff.2 h)
    have hne2 : (s.toList = []) = False := by simpa using hne
    have hpos : 0 < s.size := by omega
    by_cases h30 : 30 < s.size
    · have HR : Hid (isName s = false) := name_no (.inr (.inl h30))
      go_enter Tryz.func48, Tryz.ntmps48
      go_wp2
      go_ret
      exact ⟨by rw [HR.out]; rfl, Below.refl _ _⟩
    · have h30' : ¬ (30 : Int) < (s.size : Int) := by omega
      have hT := Lib.hid (take_one s hpos)
      by_cases hd : 48 ≤ s[0].toNat ∧ s[0].toNat ≤ 57
      · have HR : Hid (isName s = false) := name_no (.inr (.inr (.inl (by rw [hT.out]; simp [digit, hd]))))
        have hd1 : (48 : Int) ≤ (s[0].toNat : Int) := by omega
        have hd2 : (s[0].toNat : Int) ≤ 57 := by omega
        go_enter Tryz.func48, Tryz.ntmps48
        go_wp2
        go_ret
        exact ⟨by rw [HR.out]; rfl, Below.refl _ _⟩
      · have hdig : Hid ((s.data.toList.take 1).any digit = false) := by
          show _ = _
          rw [hT.out]; simp only [List.any_cons, List.any_nil, Bool.or_false, digit]; exact decide_eq_false hd
        have core : ∀ w : World, (48 : Int) ≤ (s[0].toNat : Int) ∧ ¬ (s[0].toNat : Int) ≤ 57 ∨ ¬ (48 : Int) ≤ (s[0].toNat : Int) := fun _ => by omega
        cases hw : Plo.isWord s with
        | true =>
          have HR : Hid (isName s = false) := name_no (.inr (.inr (.inr hw)))
          have HW := Lib.hid hw
          clear hw
          rcases core w with ⟨hd1, hd2⟩ | hd1
          all_goals
            clear core
            go_enter Tryz.func48, Tryz.ntmps48
            go_wp2_with fail
            refine (word_is s true w HW.out).mono ?_
            rintro e w1 ⟨rfl, hb⟩
            go_wp2
            go_ret
            exact ⟨by rw [HR.out]; rfl, hb⟩
        | false =>
          have HR : Hid ((Lib.trimS s.data.toList cutset).isEmpty = isName s) := by
            show _ = _
            rw [trim_is, name_yes h0 (by omega) hdig.out hw]
          have HW := Lib.hid hw
          clear hw
          rcases core w with ⟨hd1, hd2⟩ | hd1
          all_goals
            clear core
            go_enter Tryz.func48, Tryz.ntmps48
            go_wp2_with fail
            refine (word_is s false w HW.out).mono ?_
            rintro e w1 ⟨rfl, hb⟩
            go_wp2_with fail
            refine (trim_any s w1 hs).mono ?_
            rintro e w2 ⟨rfl, hb2⟩
            go_wp2
            go_ret
            exact ⟨by rw [← HR.out]; rfl, hb.trans (hb2.mono hb.size)⟩

theorem ret_bool {a b : Bool} (h : a = b) : Ending.returned (.bool a) = .returned (.bool b) := by rw [h]
set_option maxHeartbeats 1000000 in
set_option maxRecDepth 100000 in
theorem rdigit (c : UInt8) (w : World) : Calls Tryz.prog 81 #[.int .u8 c.toNat] w fun e w' => e = .returned (.bool (digit c)) ∧ w = w' := by
  have e : digit c = decide ((48 : Int) ≤ (c.toNat : Int) ∧ (c.toNat : Int) ≤ 57) := by unfold digit; exact decide_eq_decide.2 (by omega)
  rw [e]
  go_enter Tryz.func81, Tryz.ntmps81
  go_wp2
  all_goals (go_ret; exact ⟨ret_bool (by rw [Bool.eq_iff_iff]; simp <;> omega), rfl⟩)
set_option maxHeartbeats 1000000 in
set_option maxRecDepth 100000 in
theorem rletter (c : UInt8) (w : World) : Calls Tryz.prog 80 #[.int .u8 c.toNat] w fun e w' => e = .returned (.bool (letter c)) ∧ w = w' := by
  go_enter Tryz.func80, Tryz.ntmps80
  go_wp2
  all_goals (go_ret; exact ⟨ret_bool (by rw [Bool.eq_iff_iff]; simp [letter] <;> omega), rfl⟩)
theorem rdigit_is (c : UInt8) (r : Bool) (w : World) (h : digit c = r) : Calls Tryz.prog 81 #[.int .u8 c.toNat] w fun e w' => e = .returned (.bool r) ∧ w = w' := by
  subst h; exact rdigit c w
theorem rletter_is (c : UInt8) (r : Bool) (w : World) (h : letter c = r) : Calls Tryz.prog 80 #[.int .u8 c.toNat] w fun e w' => e = .returned (.bool r) ∧ w = w' := by
  subst h; exact rletter c w
theorem rword_is (x : ByteArray) (r : Bool) (w : World) (h : Plo.isWord x = r) : Calls Tryz.prog 82 #[.string x] w fun e w' => e = .returned (.bool r) ∧ Below w.heap.size w w' := by
  subst h; exact rword_any x w
/-- The first k bytes are those of a name. -/
def okTo (s : ByteArray) (k : Nat) : Prop := (s.data.toList.take k).all alnum = true ∧ (1 ≤ k → (s.data.toList.take 1).any digit = false)
theorem letter_not_digit {c : UInt8} (h : letter c = true) : digit c = false := by
  unfold letter at h
  unfold digit
  rw [decide_eq_true_eq] at h
  rw [decide_eq_false_iff_not]
  omega
theorem okTo_step {s : ByteArray} {k : Nat} (hk : k < s.size) (h : okTo s k) (hc : letter s[k] = true ∨ digit s[k] = true ∧ 0 < k) : okTo s (k + 1) := by
  refine ⟨?_, fun _ => ?_⟩
  · rw [List.take_succ_eq_append_getElem (by simpa using hk), List.all_append, h.1]
    have : alnum s[k] = true := by
      rcases hc with h1 | ⟨h1, _⟩ <;> simp [alnum, h1]
    show (true && (alnum s[k] && true)) = true
    rw [this]; rfl
  · by_cases h0 : 1 ≤ k
    · exact h.2 h0
    · obtain rfl : k = 0 := by omega
      rcases hc with h1 | ⟨_, h1⟩
      · rw [take_one s hk]
        simp [letter_not_digit h1]
      · omega
theorem name_bad {s : ByteArray} {k : Nat} (hk : k < s.size) (hl : letter s[k] = false) (hd : digit s[k] = false ∨ k = 0) : isName s = false := by
  cases hdd : digit s[k] with
  | true =>
    rcases hd with h | h
    · rw [hdd] at h; exact absurd h (by decide)
    · subst h
      exact name_no (.inr (.inr (.inl (by rw [take_one s hk]; simp [hdd]))))
  | false =>
    have : s.data.toList.all alnum = false := by
      rw [List.all_eq_false]
      refine ⟨s[k], ?_, by simp [alnum, hl, hdd]⟩
      exact List.getElem_mem (l := s.data.toList) (by simpa using hk)
    unfold isName
    simp [this]
theorem name_end {s : ByteArray} (h1 : s.size ≠ 0) (h2 : s.size ≤ 30) (h : okTo s s.size) : isName s = !Plo.isWord s := by
  cases hw : Plo.isWord s with
  | true => rw [name_no (.inr (.inr (.inr hw)))]; rfl
  | false =>
    rw [name_yes h1 h2 (h.2 (by omega)) hw]
    have := h.1
    rw [List.take_of_length_le (by exact Nat.le_refl _)] at this
    rw [this]; rfl

set_option maxHeartbeats 4000000 in
set_option maxRecDepth 100000 in
theorem rname_any (s : ByteArray) (w : World) :
    Calls Tryz.prog 55 #[.string s] w fun e w' => e = .returned (.bool (isName s)) ∧ Below w.heap.size w w' := by
  by_cases h0 : s.size = 0
  · have HR : Hid (isName s = false) := name_no (.inl h0)
    have hz : (s.size : Int) < 1 := by omega
    clear h0
    go_enter Tryz.func55, Tryz.ntmps55
    go_wp2
    go_ret
    exact ⟨by rw [HR.out]; rfl, Below.refl _ _⟩
  · have hz : ¬ (s.size : Int) < 1 := by omega
    by_cases h30 : 30 < s.size
    · have HR : Hid (isName s = false) := name_no (.inr (.inl h30))
      have h30' : (30 : Int) < (s.size : Int) := by omega
      go_enter Tryz.func55, Tryz.ntmps55
      go_wp2
      go_ret
      exact ⟨by rw [HR.out]; rfl, Below.refl _ _⟩
    · have h30' : ¬ (30 : Int) < (s.size : Int) := by omega
      go_enter Tryz.func55, Tryz.ntmps55
      go_wp2
      go_loop [3] (fun i => ∃ k : Nat, k ≤ s.size ∧ i = .int .i64 k ∧ Hid (okTo s k)) (fun i => s.size - (intOf i).toNat)
      case atStart => exact ⟨0, Nat.zero_le _, rfl, ⟨by simp, fun h => by omega⟩⟩
      case round =>
        obtain ⟨k, hk, rfl, HK⟩ := hrel
        by_cases hlt : k < s.size
        · cases hl : letter s[k] with
          | true =>
            have HL := Lib.hid hl
            clear hl
            cases hd : digit s[k]
            all_goals
              have HD := Lib.hid hd
              clear hd
              go_wp2_with (first | (go_at_call 80; refine (rletter_is _ true _ HL.out).mono ?_; rintro e w1 ⟨rfl, rfl⟩) | (go_at_call 81; refine (rdigit_is _ _ _ HD.out).mono ?_; rintro e w1 ⟨rfl, rfl⟩))
              go_round
              case rel => exact ⟨k + 1, by omega, by go_num, okTo_step hlt HK.out (.inl HL.out)⟩
              case measure => simp [intOf]; omega
          | false =>
            have HL := Lib.hid hl
            clear hl
            cases hd : digit s[k] with
            | true =>
              have HD := Lib.hid hd
              clear hd
              by_cases hk0 : k = 0
              · have HR : Hid (isName s = false) := name_bad hlt HL.out (.inr hk0)
                have hk1 : decide (0 < k) = false := decide_eq_false (by omega)
                clear hk0
                go_wp2_with (first | (go_at_call 80; refine (rletter_is _ false _ HL.out).mono ?_; rintro e w1 ⟨rfl, rfl⟩) | (go_at_call 81; refine (rdigit_is _ _ _ HD.out).mono ?_; rintro e w1 ⟨rfl, rfl⟩))
                go_ret
                exact ⟨by rw [HR.out]; rfl, Below.refl _ _⟩
              · have hk1 : decide (0 < k) = true := decide_eq_true (by omega)
                have hk2 : (0 : Int) < (k : Int) := by omega
                go_wp2_with (first | (go_at_call 80; refine (rletter_is _ false _ HL.out).mono ?_; rintro e w1 ⟨rfl, rfl⟩) | (go_at_call 81; refine (rdigit_is _ _ _ HD.out).mono ?_; rintro e w1 ⟨rfl, rfl⟩))
                go_round
                case rel => exact ⟨k + 1, by omega, by go_num, okTo_step hlt HK.out (.inr ⟨HD.out, by omega⟩)⟩
                case measure => simp [intOf]; omega
            | false =>
              have HD := Lib.hid hd
              clear hd
              have HR : Hid (isName s = false) := name_bad hlt HL.out (.inl HD.out)
              go_wp2_with (first | (go_at_call 80; refine (rletter_is _ false _ HL.out).mono ?_; rintro e w1 ⟨rfl, rfl⟩) | (go_at_call 81; refine (rdigit_is _ _ _ HD.out).mono ?_; rintro e w1 ⟨rfl, rfl⟩))
              go_ret
              exact ⟨by rw [HR.out]; rfl, Below.refl _ _⟩
        · have HR : Hid (isName s = !Plo.isWord s) := name_end h0 (by omega) (by rw [show s.size = k by omega]; exact HK.out)
          go_wp2_with fail
          refine (rword_any s _).mono ?_
          rintro e w1 ⟨rfl, hb⟩
          go_wp2
          go_ret
          exact ⟨by rw [HR.out]; rfl, hb⟩
end Go.Proofs.YtgodeffkboihlaaGreatDoor.Nam

/- types.cut, measure, Right. -/
set_option linter.unusedVariables false
namespace Go.Proofs.YtgodeffkboihlaaGreatDoor.Typ
open Go.RowKit

def chan : List UInt8 := [99, 104, 97, 110, 32]
def chanS : List UInt8 := [99, 104, 97, 110, 60, 45, 32]
def chanR : List UInt8 := [60, 45, 99, 104, 97, 110, 32]
def arrow : List UInt8 := [60, 45]
/-- A channel's type, as far as its own word goes. -/
def cutL (l : List UInt8) : Int × List UInt8 × Bool :=
  if Lib.hasPrefix l chanS = true then (1, Lib.trimPrefix l chanS, true)
  else if Lib.hasPrefix l chanR = true then (2, Lib.trimPrefix l chanR, true)
  else if Lib.hasPrefix l chan = false then (0, [], false)
  else if Lib.hasPrefix (Lib.trimPrefix l chan) [40] = true then (0, Lib.trimSuffix (Lib.trimPrefix (Lib.trimPrefix l chan) [40]) [41], Lib.hasSuffix (Lib.trimPrefix (Lib.trimPrefix l chan) [40]) [41] && Lib.hasPrefix (Lib.trimSuffix (Lib.trimPrefix (Lib.trimPrefix l chan) [40]) [41]) arrow)
  else (0, Lib.trimPrefix l chan, !Lib.hasPrefix (Lib.trimPrefix l chan) arrow)
theorem pre_is (s p : ByteArray) (E : ByteArray) (r : Bool) (w : World) (hE : E.data.toList = Lib.trimPrefix s.data.toList p.data.toList) (hr : Lib.hasPrefix s.data.toList p.data.toList = r) :
    Calls Tryz.prog 99 #[.string s, .string p] w fun e w' => e = .returned (.tuple #[.string E, .bool r]) ∧ w = w' := by
  refine (Tryz.strings_CutPrefix s p w).mono ?_
  rintro e w' ⟨rfl, rfl⟩
  refine ⟨?_, rfl⟩
  rw [hr, ← hE]
theorem suf_is (s p : ByteArray) (E : ByteArray) (r : Bool) (w : World) (hs : s.size ≤ 9223372036854775807) (hE : E.data.toList = Lib.trimSuffix s.data.toList p.data.toList) (hr : Lib.hasSuffix s.data.toList p.data.toList = r) :
    Calls Tryz.prog 100 #[.string s, .string p] w fun e w' => e = .returned (.tuple #[.string E, .bool r]) ∧ w = w' := by
  refine (Tryz.strings_CutSuffix s p w hs).mono ?_
  rintro e w' ⟨rfl, rfl⟩
  refine ⟨?_, rfl⟩
  rw [hr, ← hE]
theorem has_is (s p : ByteArray) (r : Bool) (w : World) (hr : Lib.hasPrefix s.data.toList p.data.toList = r) :
    Calls Tryz.prog 73 #[.string s, .string p] w fun e w' => e = .returned (.bool r) ∧ w = w' := by
  refine (Tryz.strings_HasPrefix s p w).mono ?_
  rintro e w' ⟨rfl, rfl⟩
  exact ⟨by rw [hr], rfl⟩
theorem named (l : List UInt8) : ∃ E : ByteArray, E.data.toList = l := ⟨⟨l.toArray⟩, rfl⟩
def CutPost (l : List UInt8) (w : World) (e : Ending) (w' : World) : Prop := ∃ E : ByteArray, e = .returned (.tuple #[.int .i64 (cutL l).1, .string E, .bool (cutL l).2.2]) ∧ E.data.toList = (cutL l).2.1 ∧ w = w'
theorem trim_len (l p : List UInt8) : (Lib.trimPrefix l p).length ≤ l.length := by unfold Lib.trimPrefix; split <;> simp
set_option maxHeartbeats 4000000 in
set_option maxRecDepth 100000 in
theorem cut_any (s : ByteArray) (w : World) (hs : s.size ≤ 9223372036854775807) : Calls Tryz.prog 61 #[.string s] w (CutPost s.data.toList w) := by
  obtain ⟨E1, hE1⟩ := named (Lib.trimPrefix s.data.toList chanS)
  obtain ⟨E2, hE2⟩ := named (Lib.trimPrefix s.data.toList chanR)
  obtain ⟨E3, hE3⟩ := named (Lib.trimPrefix s.data.toList chan)
  obtain ⟨E4, hE4⟩ := named (Lib.trimPrefix E3.data.toList [40])
  obtain ⟨E5, hE5⟩ := named (Lib.trimSuffix E4.data.toList [41])
  have hs4 : E4.size ≤ 9223372036854775807 := by
    have h1 := trim_len s.data.toList chan
    have h2 := trim_len E3.data.toList [40]
    rw [← hE3] at h1
    rw [← hE4] at h2
    have e3 : E3.data.toList.length = E3.size := by rw [Array.length_toList]; rfl
    have e4 : E4.data.toList.length = E4.size := by rw [Array.length_toList]; rfl
    have e0 : s.data.toList.length = s.size := by rw [Array.length_toList]; rfl
    omega
  have HU : Hid (cutL s.data.toList = _) := Lib.hid (by unfold cutL; rfl)
  obtain ⟨r1, hr1⟩ : ∃ r, Lib.hasPrefix s.data.toList chanS = r := ⟨_, rfl⟩
  obtain ⟨r2, hr2⟩ : ∃ r, Lib.hasPrefix s.data.toList chanR = r := ⟨_, rfl⟩
  obtain ⟨r3, hr3⟩ : ∃ r, Lib.hasPrefix s.data.toList chan = r := ⟨_, rfl⟩
  obtain ⟨r4, hr4⟩ : ∃ r, Lib.hasPrefix E3.data.toList [40] = r := ⟨_, rfl⟩
  obtain ⟨r5, hr5⟩ : ∃ r, Lib.hasSuffix E4.data.toList [41] = r := ⟨_, rfl⟩
  obtain ⟨r6, hr6⟩ : ∃ r, Lib.hasPrefix E5.data.toList arrow = r := ⟨_, rfl⟩
  obtain ⟨r7, hr7⟩ : ∃ r, Lib.hasPrefix E3.data.toList arrow = r := ⟨_, rfl⟩
  have H1 := Lib.hid (fun w => pre_is s ⟨#[99, 104, 97, 110, 60, 45, 32]⟩ E1 r1 w hE1 hr1)
  have H2 := Lib.hid (fun w => pre_is s ⟨#[60, 45, 99, 104, 97, 110, 32]⟩ E2 r2 w hE2 hr2)
  have H3 := Lib.hid (fun w => pre_is s ⟨#[99, 104, 97, 110, 32]⟩ E3 r3 w hE3 hr3)
  have H4 := Lib.hid (fun w => pre_is E3 ⟨#[40]⟩ E4 r4 w hE4 hr4)
  have H5 := Lib.hid (fun w => suf_is E4 ⟨#[41]⟩ E5 r5 w hs4 hE5 hr5)
  have H6 := Lib.hid (fun w => has_is E5 ⟨#[60, 45]⟩ r6 w hr6)
  have H7 := Lib.hid (fun w => has_is E3 ⟨#[60, 45]⟩ r7 w hr7)
  have HV : Hid (cutL s.data.toList = if r1 = true then (1, E1.data.toList, true) else if r2 = true then (2, E2.data.toList, true) else if r3 = false then (0, [], false) else if r4 = true then (0, E5.data.toList, r5 && r6) else (0, E3.data.toList, !r7)) := by
    show _ = _
    rw [HU.out, hr1, hr2, hr3, ← hE1, ← hE2, ← hE3, hr4, ← hE4, hr5, ← hE5, hr6, hr7]
  clear hE1 hE2 hE3 hE4 hE5 hr1 hr2 hr3 hr4 hr5 hr6 hr7 HU
  cases r1
  rotate_left
  · go_enter Tryz.func61, Tryz.ntmps61
    go_wp2_with fail
    refine (H1.out _).mono ?_
    rintro e w' ⟨rfl, rfl⟩
    go_wp2
    go_ret3
    exact ⟨E1, by rw [HV.out]; rfl, by rw [HV.out]; rfl, rfl⟩
  cases r2
  rotate_left
  · go_enter Tryz.func61, Tryz.ntmps61
    go_wp2_with fail
    refine (H1.out _).mono ?_
    rintro e w' ⟨rfl, rfl⟩
    go_wp2_with fail
    refine (H2.out _).mono ?_
    rintro e w' ⟨rfl, rfl⟩
    go_wp2
    go_ret3
    exact ⟨E2, by rw [HV.out]; rfl, by rw [HV.out]; rfl, rfl⟩
  cases r3
  · go_enter Tryz.func61, Tryz.ntmps61
    go_wp2_with fail
    refine (H1.out _).mono ?_
    rintro e w' ⟨rfl, rfl⟩
    go_wp2_with fail
    refine (H2.out _).mono ?_
    rintro e w' ⟨rfl, rfl⟩
    go_wp2_with fail
    refine (H3.out _).mono ?_
    rintro e w' ⟨rfl, rfl⟩
    go_wp2
    go_ret3
    exact ⟨⟨#[]⟩, by rw [HV.out]; rfl, by rw [HV.out]; rfl, rfl⟩
  cases r4
  · cases r7
    all_goals
      go_enter Tryz.func61, Tryz.ntmps61
      go_wp2_with fail
      refine (H1.out _).mono ?_
      rintro e w' ⟨rfl, rfl⟩
      go_wp2_with fail
      refine (H2.out _).mono ?_
      rintro e w' ⟨rfl, rfl⟩
      go_wp2_with fail
      refine (H3.out _).mono ?_
      rintro e w' ⟨rfl, rfl⟩
      go_wp2_with fail
      refine (H4.out _).mono ?_
      rintro e w' ⟨rfl, rfl⟩
      go_wp2_with fail
      refine (H7.out _).mono ?_
      rintro e w' ⟨rfl, rfl⟩
      go_wp2
      go_ret3
      exact ⟨E3, by rw [HV.out]; rfl, by rw [HV.out]; rfl, rfl⟩
  · cases r5
    · go_enter Tryz.func61, Tryz.ntmps61
      go_wp2_with fail
      refine (H1.out _).mono ?_
      rintro e w' ⟨rfl, rfl⟩
      go_wp2_with fail
      refine (H2.out _).mono ?_
      rintro e w' ⟨rfl, rfl⟩
      go_wp2_with fail
      refine (H3.out _).mono ?_
      rintro e w' ⟨rfl, rfl⟩
      go_wp2_with fail
      refine (H4.out _).mono ?_
      rintro e w' ⟨rfl, rfl⟩
      go_wp2_with fail
      refine (H5.out _).mono ?_
      rintro e w' ⟨rfl, rfl⟩
      go_wp2
      go_ret3
      exact ⟨E5, by rw [HV.out]; rfl, by rw [HV.out]; rfl, rfl⟩
    · cases r6
      all_goals
        go_enter Tryz.func61, Tryz.ntmps61
        go_wp2_with fail
        refine (H1.out _).mono ?_
        rintro e w' ⟨rfl, rfl⟩
        go_wp2_with fail
        refine (H2.out _).mono ?_
        rintro e w' ⟨rfl, rfl⟩
        go_wp2_with fail
        refine (H3.out _).mono ?_
        rintro e w' ⟨rfl, rfl⟩
        go_wp2_with fail
        refine (H4.out _).mono ?_
        rintro e w' ⟨rfl, rfl⟩
        go_wp2_with fail
        refine (H5.out _).mono ?_
        rintro e w' ⟨rfl, rfl⟩
        go_wp2_with fail
        refine (H6.out _).mono ?_
        rintro e w' ⟨rfl, rfl⟩
        go_wp2
        go_ret3
        exact ⟨E5, by rw [HV.out]; rfl, by rw [HV.out]; rfl, rfl⟩
end Go.Proofs.YtgodeffkboihlaaGreatDoor.Typ

/- types.measure, types.Right. -/
set_option linter.unusedVariables false
namespace Go.Proofs.YtgodeffkboihlaaGreatDoor.Tyq
open Go.RowKit Typ

def base (l : List UInt8) : Bool := l == [105, 110, 116] || l == [98, 111, 111, 108] || l == [77, 117, 116, 101, 120] || l == [87, 97, 105, 116, 71, 114, 111, 117, 112]
/-- How many channels a type has. -/
def chans : Nat → List UInt8 → Option Nat
  | 0, _ => none
  | f + 1, l => if base l = true then some 0 else if (cutL l).2.2 = true then (chans f (cutL l).2.1).map (· + 1) else none
theorem drop_short {l p : List UInt8} (h : Lib.hasPrefix l p = true) (hp : p ≠ []) : (Lib.trimPrefix l p).length < l.length := by
  unfold Lib.trimPrefix
  rw [if_pos h]
  obtain ⟨q, hq⟩ := List.isPrefixOf_iff_prefix.1 h
  have : 0 < p.length := List.length_pos_iff.2 hp
  rw [← hq]; simp; omega
theorem suf_len (l p : List UInt8) : (Lib.trimSuffix l p).length ≤ l.length := by unfold Lib.trimSuffix; split <;> simp
theorem cut_short {l : List UInt8} (h : (cutL l).2.2 = true) : (cutL l).2.1.length < l.length := by
  unfold cutL at h ⊢
  split at h
  · rename_i h1; rw [if_pos h1]; exact drop_short h1 (by decide)
  rename_i h1
  rw [if_neg h1]
  split at h
  · rename_i h2; rw [if_pos h2]; exact drop_short h2 (by decide)
  rename_i h2
  rw [if_neg h2]
  split at h
  · simp at h
  rename_i h3
  rw [if_neg h3]
  have h3' : Lib.hasPrefix l chan = true := by simpa using h3
  have h4 := drop_short h3' (by decide)
  split
  · have h5 := suf_len (Lib.trimPrefix (Lib.trimPrefix l chan) [40]) [41]
    have h6 := trim_len (Lib.trimPrefix l chan) [40]
    show (Lib.trimSuffix (Lib.trimPrefix (Lib.trimPrefix l chan) [40]) [41]).length < _
    omega
  · exact h4
theorem chans_more : ∀ (f g : Nat) (l : List UInt8), l.length < f → l.length < g → chans f l = chans g l := by
  intro f
  induction f with
  | zero => intro g l h; omega
  | succ f ih =>
    intro g l h1 h2
    cases g with
    | zero => omega
    | succ g =>
      simp only [chans]
      by_cases hb : base l = true
      · rw [if_pos hb, if_pos hb]
      · rw [if_neg hb, if_neg hb]
        by_cases hc : (cutL l).2.2 = true
        · have := cut_short hc
          rw [if_pos hc, if_pos hc, ih g _ (by omega) (by omega)]
        · rw [if_neg hc, if_neg hc]
/-- A type's text, as a list: how many channels it has. -/
def chansB (E : ByteArray) : Option Nat := chans (E.size + 1) E.data.toList
theorem size_len (E : ByteArray) : E.data.toList.length = E.size := by rw [Array.length_toList]; rfl
theorem chansB_base {E : ByteArray} (h : base E.data.toList = true) : chansB E = some 0 := by unfold chansB chans; rw [if_pos h]
theorem chansB_none {E : ByteArray} (h : base E.data.toList = false) (hc : (cutL E.data.toList).2.2 = false) : chansB E = none := by unfold chansB chans; rw [if_neg (by rw [h]; simp), if_neg (by rw [hc]; simp)]
theorem chansB_cut {E D : ByteArray} (h : base E.data.toList = false) (hc : (cutL E.data.toList).2.2 = true) (hD : D.data.toList = (cutL E.data.toList).2.1) : chansB E = (chansB D).map (· + 1) ∧ D.size < E.size := by
  have h1 := cut_short hc
  rw [← hD, size_len, size_len] at h1
  refine ⟨?_, h1⟩
  have : chansB E = (chans E.size (cutL E.data.toList).2.1).map (· + 1) := by
    unfold chansB; rw [chans, if_neg (by rw [h]; simp), if_pos hc]
  rw [this, ← hD, chans_more E.size (D.size + 1) D.data.toList (by rw [size_len]; exact h1) (by rw [size_len]; omega)]
  rfl
def measV (o : Option Nat) : Value := match o with
  | some n => .tuple #[.int .i64 n, .bool (decide ((n : Int) ≤ 40))]
  | none => .tuple #[.int .i64 0, .bool false]
theorem base_false {E : ByteArray} (e1 : (E.toList == [105, 110, 116]) = false) (e2 : (E.toList == [98, 111, 111, 108]) = false) (e3 : (E.toList == [77, 117, 116, 101, 120]) = false) (e4 : (E.toList == [87, 97, 105, 116, 71, 114, 111, 117, 112]) = false) : base E.data.toList = false := by
  rw [Lib.toList_data] at e1 e2 e3 e4
  unfold base; rw [e1, e2, e3, e4]; rfl
theorem base_true {E : ByteArray} (h : (E.toList == [105, 110, 116]) = true ∨ (E.toList == [98, 111, 111, 108]) = true ∨ (E.toList == [77, 117, 116, 101, 120]) = true ∨ (E.toList == [87, 97, 105, 116, 71, 114, 111, 117, 112]) = true) : base E.data.toList = true := by
  rw [Lib.toList_data] at h
  unfold base
  rcases h with h | h | h | h <;> rw [h] <;> simp
set_option maxHeartbeats 4000000 in
set_option maxRecDepth 100000 in
theorem measure_any (s : ByteArray) (w : World) (hs : s.size ≤ 4611686018427387904) : Calls Tryz.prog 49 #[.string s] w fun e w' => e = .returned (measV (chansB s)) ∧ w = w' := by
  go_enter Tryz.func49, Tryz.ntmps49
  go_wp2
  go_loop [0, 4] (fun t n => ∃ (E : ByteArray) (k : Nat), E.size + k ≤ s.size ∧ t = .string E ∧ n = .int .i64 k ∧ Hid (chansB s = (chansB E).map (· + k))) (fun t _ => match t with | .string E => E.size | _ => 0)
  case atStart => exact ⟨s, 0, by omega, rfl, rfl, by show _ = _; cases chansB s <;> simp⟩
  case round =>
    obtain ⟨E, k, hk, rfl, rfl, hC⟩ := hrel
    by_cases hb : base E.data.toList = true
    · have HV : Hid (measV (chansB s) = .tuple #[.int .i64 k, .bool (decide ((k : Int) ≤ 40))]) := by
        show _ = _
        rw [hC.out, chansB_base hb]; simp [measV]
      clear hC
      have hbb := hb
      unfold base at hbb
      rw [← Lib.toList_data] at hbb
      clear hb
      cases e1 : (E.toList == [105, 110, 116])
      rotate_left
      · clear hbb
        go_wp2
        go_ret2
        exact ⟨by rw [HV.out]; rfl, rfl⟩
      cases e2 : (E.toList == [98, 111, 111, 108])
      rotate_left
      · clear hbb
        go_wp2
        go_ret2
        exact ⟨by rw [HV.out]; rfl, rfl⟩
      cases e3 : (E.toList == [77, 117, 116, 101, 120])
      rotate_left
      · clear hbb
        go_wp2
        go_ret2
        exact ⟨by rw [HV.out]; rfl, rfl⟩
      cases e4 : (E.toList == [87, 97, 105, 116, 71, 114, 111, 117, 112])
      · rw [e1, e2, e3, e4] at hbb; cases hbb
      · clear hbb
        go_wp2
        go_ret2
        exact ⟨by rw [HV.out]; rfl, rfl⟩
    · have hb : base E.data.toList = false := by simpa using hb
      have hbb := hb
      unfold base at hbb
      rw [← Lib.toList_data] at hbb
      simp only [Bool.or_eq_false_iff] at hbb
      obtain ⟨⟨⟨e1, e2⟩, e3⟩, e4⟩ := hbb
      have HB := Lib.hid hb
      clear hb
      have hcut := cut_any E w (by omega)
      unfold CutPost at hcut
      obtain ⟨x, hx⟩ : ∃ x, cutL E.data.toList = x := ⟨_, rfl⟩
      rw [hx] at hcut
      have HX := Lib.hid hx
      have HCC := Lib.hid hcut
      clear hx hcut
      obtain ⟨d, l, ok⟩ := x
      cases ok
      · have HV : Hid (measV (chansB s) = .tuple #[.int .i64 0, .bool false]) := by
          show _ = _
          rw [hC.out, chansB_none HB.out (by rw [HX.out])]; rfl
        clear hC
        go_wp2_with fail
        refine HCC.out.mono ?_
        rintro e w' ⟨D, rfl, _, rfl⟩
        go_wp2
        go_ret2
        exact ⟨by rw [HV.out]; rfl, rfl⟩
      · go_wp2_with fail
        refine HCC.out.mono ?_
        rintro e w' ⟨D, rfl, hD, rfl⟩
        have h2 := chansB_cut (D := D) HB.out (by rw [HX.out]) (by rw [HX.out]; exact hD)
        have HN : Hid (chansB s = (chansB D).map (· + (k + 1))) := by
          show _ = _
          rw [hC.out, h2.1]
          cases chansB D <;> simp
          omega
        have hlt := h2.2
        clear hC h2 hD
        go_wp2
        go_round
        case rel => exact ⟨D, k + 1, by omega, rfl, by go_num, HN⟩
        case measure => exact hlt
/-- Is it a type's text? -/
def typeB (s : ByteArray) : Bool := match chansB s with
  | some n => decide ((n : Int) ≤ 40)
  | none => false
set_option maxHeartbeats 4000000 in
set_option maxRecDepth 100000 in
theorem right_any (s : ByteArray) (w : World) (hs : s.size ≤ 4611686018427387904) : Calls Tryz.prog 37 #[.string s] w fun e w' => e = .returned (.bool (typeB s)) ∧ w = w' := by
  have hm := fun w => measure_any s w hs
  obtain ⟨o, ho⟩ : ∃ o, chansB s = o := ⟨_, rfl⟩
  unfold typeB
  rw [ho] at hm ⊢
  clear ho
  cases o with
  | none =>
    unfold measV at hm
    have HM := Lib.hid hm
    clear hm
    go_enter Tryz.func37, Tryz.ntmps37
    go_wp2_with fail
    refine (HM.out _).mono ?_
    rintro e w' ⟨rfl, rfl⟩
    go_wp2
    go_ret
    exact ⟨rfl, rfl⟩
  | some n =>
    unfold measV at hm
    simp only at hm ⊢
    obtain ⟨r, hr⟩ : ∃ r, decide ((n : Int) ≤ 40) = r := ⟨_, rfl⟩
    rw [hr] at hm ⊢
    have HM := Lib.hid hm
    clear hm hr
    go_enter Tryz.func37, Tryz.ntmps37
    go_wp2_with fail
    refine (HM.out _).mono ?_
    rintro e w' ⟨rfl, rfl⟩
    go_wp2
    go_ret
    exact ⟨rfl, rfl⟩
end Go.Proofs.YtgodeffkboihlaaGreatDoor.Tyq
