/- words.Name and drowseref02.Name: for every text of at most 2^45 bytes both answer whether it is a name. -/
import Derived.Test.YtjmgfhbadnechaaDoorWrd
import Derived.Test.YtjmgfhbadnechaaDoorShelf
import Derived.Test.YtjmgfhbadnechaaDoorPlw
import Derived.Shelf.Strings.SlTrimAscii
import Derived.BigQuiet
import Derived.Deep.QuietTactic
set_option linter.unusedVariables false
namespace Go.Proofs.YtjmgfhbadnechaaDoor.Nam
open Go.RowKit Wrd

/-- A digit; a byte of a name. -/
def digit (c : UInt8) : Bool := decide (48 ≤ c.toNat ∧ c.toNat ≤ 57)
def letter (c : UInt8) : Bool := decide (65 ≤ c.toNat ∧ c.toNat ≤ 90 ∨ 97 ≤ c.toNat ∧ c.toNat ≤ 122 ∨ c.toNat = 95)
def alnum (c : UInt8) : Bool := letter c || digit c
/-- Is a text a name? -/
def isName (x : ByteArray) : Bool := decide (1 ≤ x.size) && decide (x.size ≤ 30) && !(x.data.toList.take 1).any digit && x.data.toList.all alnum && !Plo.isWord x

def cutset : List UInt8 := [48, 49, 50, 51, 52, 53, 54, 55, 56, 57, 95, 97, 98, 99, 100, 101, 102, 103, 104, 105, 106, 107, 108, 109, 110, 111, 112, 113, 114, 115, 116, 117, 118, 119, 120, 121, 122, 65, 66, 67, 68, 69, 70, 71, 72, 73, 74, 75, 76, 77, 78, 79, 80, 81, 82, 83, 84, 85, 86, 87, 88, 89, 90]
theorem cutset_is (c : UInt8) : cutset.contains c = alnum c := by
  have h : (List.range 256).all (fun n => cutset.contains (UInt8.ofNat n) == alnum (UInt8.ofNat n)) = true := by decide +kernel
  rw [List.all_eq_true] at h
  have := h c.toNat (List.mem_range.2 c.toNat_lt)
  rw [UInt8.ofNat_toNat] at this
  exact eq_of_beq this

theorem dropWhile_nil {p : UInt8 → Bool} : ∀ l : List UInt8, l.dropWhile p = [] ↔ l.all p = true
  | [] => by simp
  | c :: r => by
    rw [List.dropWhile_cons, List.all_cons, Bool.and_eq_true]
    cases hc : p c
    · simp
    · simp only [if_true, true_and]; exact dropWhile_nil r
theorem dropWhile_not {p : UInt8 → Bool} : ∀ l : List UInt8, l.all p = false → ∃ c r, l.dropWhile p = c :: r ∧ p c = false
  | [], h => by simp at h
  | c :: r, h => by
    rw [List.dropWhile_cons]
    cases hc : p c
    · exact ⟨c, r, by simp, hc⟩
    · rw [List.all_cons, hc, Bool.true_and] at h
      simpa using dropWhile_not r h
theorem trim_nil (l cs : List UInt8) : Lib.trimS l cs = [] ↔ l.all (cs.contains ·) = true := by
  unfold Lib.trimS Lib.trimLeftS Lib.trimRightS
  rw [dropWhile_nil, List.all_reverse]
  constructor
  · intro h
    cases ha : l.all (cs.contains ·) with
    | true => rfl
    | false =>
      exfalso
      obtain ⟨c, r, hd, hc⟩ := dropWhile_not (p := (cs.contains ·)) l.reverse (by rw [List.all_reverse]; exact ha)
      rw [hd, List.all_cons, hc] at h
      simp at h
  · intro h
    rw [(dropWhile_nil (p := (cs.contains ·)) l.reverse).2 (by rw [List.all_reverse]; exact h)]
    rfl
theorem trim_is (s : ByteArray) : (Lib.trimS s.data.toList cutset).isEmpty = s.data.toList.all alnum := by
  have e : (fun c => cutset.contains c) = alnum := funext cutset_is
  rw [Bool.eq_iff_iff, List.isEmpty_iff, trim_nil, e]

set_option maxHeartbeats 1000000 in
theorem trim_any (s : ByteArray) (w : World) (hs : s.size ≤ 35184372088832) :
    Calls Tryd.prog 57 #[.string s, .string ⟨#[48, 49, 50, 51, 52, 53, 54, 55, 56, 57, 95, 97, 98, 99, 100, 101, 102, 103, 104, 105, 106, 107, 108, 109, 110, 111, 112, 113, 114, 115, 116, 117, 118, 119, 120, 121, 122, 65, 66, 67, 68, 69, 70, 71, 72, 73, 74, 75, 76, 77, 78, 79, 80, 81, 82, 83, 84, 85, 86, 87, 88, 89, 90]⟩] w fun e w' => e = .returned (.string ⟨(Lib.trimS s.data.toList cutset).toArray⟩) ∧ Below w.heap.size w w' :=
  Any.strings_Trim_laid Tryd.lays160 (by kernel_rfl) s ⟨#[48, 49, 50, 51, 52, 53, 54, 55, 56, 57, 95, 97, 98, 99, 100, 101, 102, 103, 104, 105, 106, 107, 108, 109, 110, 111, 112, 113, 114, 115, 116, 117, 118, 119, 120, 121, 122, 65, 66, 67, 68, 69, 70, 71, 72, 73, 74, 75, 76, 77, 78, 79, 80, 81, 82, 83, 84, 85, 86, 87, 88, 89, 90]⟩ w (by omega) (by decide) (ascii_of_all (by decide))

theorem name_no {x : ByteArray} (h : x.size = 0 ∨ 30 < x.size ∨ (x.data.toList.take 1).any digit = true ∨ Plo.isWord x = true) : isName x = false := by
  unfold isName
  rcases h with h | h | h | h
  · simp [h]
  · have : ¬ x.size ≤ 30 := by omega
    simp [this]
  · simp [h]
  · simp [h]
theorem name_yes {x : ByteArray} (h1 : x.size ≠ 0) (h2 : x.size ≤ 30) (h3 : (x.data.toList.take 1).any digit = false) (h4 : Plo.isWord x = false) : isName x = x.data.toList.all alnum := by
  unfold isName
  have e1 : decide (1 ≤ x.size) = true := decide_eq_true (by omega)
  have e2 : decide (x.size ≤ 30) = true := decide_eq_true h2
  rw [e1, e2, h3, h4]
  simp
theorem take_one (s : ByteArray) (h : 0 < s.size) : s.data.toList.take 1 = [s[0]] := by
  rw [List.take_succ_eq_append_getElem (by simpa using h)]; rfl

theorem word_is (x : ByteArray) (r : Bool) (w : World) (h : Plo.isWord x = r) : Calls Tryd.prog 34 #[.string x] w fun e w' => e = .returned (.bool r) ∧ Below w.heap.size w w' := by
  subst h; exact word_any x w

set_option maxHeartbeats 4000000 in
set_option maxRecDepth 100000 in
theorem name_any (s : ByteArray) (w : World) (hs : s.size ≤ 35184372088832) :
    Calls Tryd.prog 33 #[.string s] w fun e w' => e = .returned (.bool (isName s)) ∧ Below w.heap.size w w' := by
  by_cases h0 : s.size = 0
  · have HR : Hid (isName s = false) := name_no (.inl h0)
    have he : s.toList = [] := by rw [Lib.toList_data]; exact List.length_eq_zero_iff.1 h0
    go_enter Tryd.func33, Tryd.ntmps33
    go_wp2
    go_ret
    exact ⟨by rw [HR.out]; rfl, Below.refl _ _⟩
  · have hne : s.toList.isEmpty = false := by
      rw [Lib.toList_data, List.isEmpty_eq_false_iff]
      intro h; exact h0 (List.length_eq_zero_iff.2 h)
    have hne2 : (s.toList = []) = False := by simpa using hne
    have hpos : 0 < s.size := by omega
    by_cases h30 : 30 < s.size
    · have HR : Hid (isName s = false) := name_no (.inr (.inl h30))
      go_enter Tryd.func33, Tryd.ntmps33
      go_wp2
      go_ret
      exact ⟨by rw [HR.out]; rfl, Below.refl _ _⟩
    · have h30' : ¬ (30 : Int) < (s.size : Int) := by omega
      have hT := Lib.hid (take_one s hpos)
      by_cases hd : 48 ≤ s[0].toNat ∧ s[0].toNat ≤ 57
      · have HR : Hid (isName s = false) := name_no (.inr (.inr (.inl (by rw [hT.out]; simp [digit, hd]))))
        have hd1 : (48 : Int) ≤ (s[0].toNat : Int) := by omega
        have hd2 : (s[0].toNat : Int) ≤ 57 := by omega
        go_enter Tryd.func33, Tryd.ntmps33
        go_wp2
        go_ret
        exact ⟨by rw [HR.out]; rfl, Below.refl _ _⟩
      · have hdig : Hid ((s.data.toList.take 1).any digit = false) := by
          show _ = _
          rw [hT.out]; simp only [List.any_cons, List.any_nil, Bool.or_false, digit]; exact decide_eq_false hd
        have core : ∀ w : World, (48 : Int) ≤ (s[0].toNat : Int) ∧ ¬ (s[0].toNat : Int) ≤ 57 ∨ ¬ (48 : Int) ≤ (s[0].toNat : Int) := fun _ => by omega
        cases hw : Plo.isWord s with
        | true =>
          have HR : Hid (isName s = false) := name_no (.inr (.inr (.inr hw)))
          have HW := Lib.hid hw
          clear hw
          rcases core w with ⟨hd1, hd2⟩ | hd1
          all_goals
            clear core
            go_enter Tryd.func33, Tryd.ntmps33
            go_wp2_with fail
            refine (word_is s true w HW.out).mono ?_
            rintro e w1 ⟨rfl, hb⟩
            go_wp2
            go_ret
            exact ⟨by rw [HR.out]; rfl, hb⟩
        | false =>
          have HR : Hid ((Lib.trimS s.data.toList cutset).isEmpty = isName s) := by
            show _ = _
            rw [trim_is, name_yes h0 (by omega) hdig.out hw]
          have HW := Lib.hid hw
          clear hw
          rcases core w with ⟨hd1, hd2⟩ | hd1
          all_goals
            clear core
            go_enter Tryd.func33, Tryd.ntmps33
            go_wp2_with fail
            refine (word_is s false w HW.out).mono ?_
            rintro e w1 ⟨rfl, hb⟩
            go_wp2_with fail
            refine (trim_any s w1 hs).mono ?_
            rintro e w2 ⟨rfl, hb2⟩
            go_wp2
            go_ret
            exact ⟨by rw [← HR.out]; rfl, hb.trans (hb2.mono hb.size)⟩

theorem ret_bool {a b : Bool} (h : a = b) : Ending.returned (.bool a) = .returned (.bool b) := by rw [h]
set_option maxHeartbeats 1000000 in
set_option maxRecDepth 100000 in
theorem rdigit (c : UInt8) (w : World) : Calls Tryd.prog 46 #[.int .u8 c.toNat] w fun e w' => e = .returned (.bool (digit c)) ∧ w = w' := by
  have e : digit c = decide ((48 : Int) ≤ (c.toNat : Int) ∧ (c.toNat : Int) ≤ 57) := by unfold digit; exact decide_eq_decide.2 (by omega)
  rw [e]
  go_enter Tryd.func46, Tryd.ntmps46
  go_wp2
  all_goals (go_ret; exact ⟨ret_bool (by rw [Bool.eq_iff_iff]; simp <;> omega), rfl⟩)
set_option maxHeartbeats 1000000 in
set_option maxRecDepth 100000 in
theorem rletter (c : UInt8) (w : World) : Calls Tryd.prog 45 #[.int .u8 c.toNat] w fun e w' => e = .returned (.bool (letter c)) ∧ w = w' := by
  go_enter Tryd.func45, Tryd.ntmps45
  go_wp2
  all_goals (go_ret; exact ⟨ret_bool (by rw [Bool.eq_iff_iff]; simp [letter] <;> omega), rfl⟩)
theorem rdigit_is (c : UInt8) (r : Bool) (w : World) (h : digit c = r) : Calls Tryd.prog 46 #[.int .u8 c.toNat] w fun e w' => e = .returned (.bool r) ∧ w = w' := by
  subst h; exact rdigit c w
theorem rletter_is (c : UInt8) (r : Bool) (w : World) (h : letter c = r) : Calls Tryd.prog 45 #[.int .u8 c.toNat] w fun e w' => e = .returned (.bool r) ∧ w = w' := by
  subst h; exact rletter c w
theorem rword_is (x : ByteArray) (r : Bool) (w : World) (h : Plo.isWord x = r) : Calls Tryd.prog 42 #[.string x] w fun e w' => e = .returned (.bool r) ∧ Below w.heap.size w w' := by
  subst h; exact rword_any x w
/-- The first k bytes are those of a name. -/
def okTo (s : ByteArray) (k : Nat) : Prop := (s.data.toList.take k).all alnum = true ∧ (1 ≤ k → (s.data.toList.take 1).any digit = false)
theorem letter_not_digit {c : UInt8} (h : letter c = true) : digit c = false := by
  unfold letter at h
  unfold digit
  rw [decide_eq_true_eq] at h
  rw [decide_eq_false_iff_not]
  omega
theorem okTo_step {s : ByteArray} {k : Nat} (hk : k < s.size) (h : okTo s k) (hc : letter s[k] = true ∨ digit s[k] = true ∧ 0 < k) : okTo s (k + 1) := by
  refine ⟨?_, fun _ => ?_⟩
  · rw [List.take_succ_eq_append_getElem (by simpa using hk), List.all_append, h.1]
    have : alnum s[k] = true := by
      rcases hc with h1 | ⟨h1, _⟩ <;> simp [alnum, h1]
    show (true && (alnum s[k] && true)) = true
    rw [this]; rfl
  · by_cases h0 : 1 ≤ k
    · exact h.2 h0
    · obtain rfl : k = 0 := by omega
      rcases hc with h1 | ⟨_, h1⟩
      · rw [take_one s hk]
        simp [letter_not_digit h1]
      · omega
theorem name_bad {s : ByteArray} {k : Nat} (hk : k < s.size) (hl : letter s[k] = false) (hd : digit s[k] = false ∨ k = 0) : isName s = false := by
  cases hdd : digit s[k] with
  | true =>
    rcases hd with h | h
    · rw [hdd] at h; exact absurd h (by decide)
    · subst h
      exact name_no (.inr (.inr (.inl (by rw [take_one s hk]; simp [hdd]))))
  | false =>
    have : s.data.toList.all alnum = false := by
      rw [List.all_eq_false]
      refine ⟨s[k], ?_, by simp [alnum, hl, hdd]⟩
      exact List.getElem_mem (l := s.data.toList) (by simpa using hk)
    unfold isName
    simp [this]
theorem name_end {s : ByteArray} (h1 : s.size ≠ 0) (h2 : s.size ≤ 30) (h : okTo s s.size) : isName s = !Plo.isWord s := by
  cases hw : Plo.isWord s with
  | true => rw [name_no (.inr (.inr (.inr hw)))]; rfl
  | false =>
    rw [name_yes h1 h2 (h.2 (by omega)) hw]
    have := h.1
    rw [List.take_of_length_le (by exact Nat.le_refl _)] at this
    rw [this]; rfl

set_option maxHeartbeats 4000000 in
set_option maxRecDepth 100000 in
theorem rname_any (s : ByteArray) (w : World) :
    Calls Tryd.prog 41 #[.string s] w fun e w' => e = .returned (.bool (isName s)) ∧ Below w.heap.size w w' := by
  by_cases h0 : s.size = 0
  · have HR : Hid (isName s = false) := name_no (.inl h0)
    have hz : (s.size : Int) < 1 := by omega
    clear h0
    go_enter Tryd.func41, Tryd.ntmps41
    go_wp2
    go_ret
    exact ⟨by rw [HR.out]; rfl, Below.refl _ _⟩
  · have hz : ¬ (s.size : Int) < 1 := by omega
    by_cases h30 : 30 < s.size
    · have HR : Hid (isName s = false) := name_no (.inr (.inl h30))
      have h30' : (30 : Int) < (s.size : Int) := by omega
      go_enter Tryd.func41, Tryd.ntmps41
      go_wp2
      go_ret
      exact ⟨by rw [HR.out]; rfl, Below.refl _ _⟩
    · have h30' : ¬ (30 : Int) < (s.size : Int) := by omega
      go_enter Tryd.func41, Tryd.ntmps41
      go_wp2
      go_loop [3] (fun i => ∃ k : Nat, k ≤ s.size ∧ i = .int .i64 k ∧ Hid (okTo s k)) (fun i => s.size - (intOf i).toNat)
      case atStart => exact ⟨0, Nat.zero_le _, rfl, ⟨by simp, fun h => by omega⟩⟩
      case round =>
        obtain ⟨k, hk, rfl, HK⟩ := hrel
        by_cases hlt : k < s.size
        · cases hl : letter s[k] with
          | true =>
            have HL := Lib.hid hl
            clear hl
            cases hd : digit s[k]
            all_goals
              have HD := Lib.hid hd
              clear hd
              go_wp2_with (first | (go_at_call 45; refine (rletter_is _ true _ HL.out).mono ?_; rintro e w1 ⟨rfl, rfl⟩) | (go_at_call 46; refine (rdigit_is _ _ _ HD.out).mono ?_; rintro e w1 ⟨rfl, rfl⟩))
              go_round
              case rel => exact ⟨k + 1, by omega, by go_num, okTo_step hlt HK.out (.inl HL.out)⟩
              case measure => simp [intOf]; omega
          | false =>
            have HL := Lib.hid hl
            clear hl
            cases hd : digit s[k] with
            | true =>
              have HD := Lib.hid hd
              clear hd
              by_cases hk0 : k = 0
              · have HR : Hid (isName s = false) := name_bad hlt HL.out (.inr hk0)
                have hk1 : decide (0 < k) = false := decide_eq_false (by omega)
                clear hk0
                go_wp2_with (first | (go_at_call 45; refine (rletter_is _ false _ HL.out).mono ?_; rintro e w1 ⟨rfl, rfl⟩) | (go_at_call 46; refine (rdigit_is _ _ _ HD.out).mono ?_; rintro e w1 ⟨rfl, rfl⟩))
                go_ret
                exact ⟨by rw [HR.out]; rfl, Below.refl _ _⟩
              · have hk1 : decide (0 < k) = true := decide_eq_true (by omega)
                have hk2 : (0 : Int) < (k : Int) := by omega
                go_wp2_with (first | (go_at_call 45; refine (rletter_is _ false _ HL.out).mono ?_; rintro e w1 ⟨rfl, rfl⟩) | (go_at_call 46; refine (rdigit_is _ _ _ HD.out).mono ?_; rintro e w1 ⟨rfl, rfl⟩))
                go_round
                case rel => exact ⟨k + 1, by omega, by go_num, okTo_step hlt HK.out (.inr ⟨HD.out, by omega⟩)⟩
                case measure => simp [intOf]; omega
            | false =>
              have HD := Lib.hid hd
              clear hd
              have HR : Hid (isName s = false) := name_bad hlt HL.out (.inl HD.out)
              go_wp2_with (first | (go_at_call 45; refine (rletter_is _ false _ HL.out).mono ?_; rintro e w1 ⟨rfl, rfl⟩) | (go_at_call 46; refine (rdigit_is _ _ _ HD.out).mono ?_; rintro e w1 ⟨rfl, rfl⟩))
              go_ret
              exact ⟨by rw [HR.out]; rfl, Below.refl _ _⟩
        · have HR : Hid (isName s = !Plo.isWord s) := name_end h0 (by omega) (by rw [show s.size = k by omega]; exact HK.out)
          go_wp2_with fail
          refine (rword_any s _).mono ?_
          rintro e w1 ⟨rfl, hb⟩
          go_wp2
          go_ret
          exact ⟨by rw [HR.out]; rfl, hb⟩
end Go.Proofs.YtjmgfhbadnechaaDoor.Nam
