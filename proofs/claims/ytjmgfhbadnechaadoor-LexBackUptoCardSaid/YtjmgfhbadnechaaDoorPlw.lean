/- Plain facts about texts as the language writes them (words.Quote, words.Unquote): no program in sight. -/
import Derived.Below
namespace Go.Proofs.YtjmgfhbadnechaaDoor.Plw

/-- How one byte is written inside quotes. -/
def esc (c : UInt8) : List UInt8 := if c = 10 then [92, 110] else if c = 9 then [92, 116] else if c = 34 then [92, 34] else if c = 92 then [92, 92] else [c]
def escs (l : List UInt8) : List UInt8 := l.flatMap esc
/-- A text in quotes. -/
def quote (l : List UInt8) : List UInt8 := [34] ++ escs l ++ [34]

theorem esc_le (c : UInt8) : (esc c).length ≤ 2 := by unfold esc; repeat' split
                                                      all_goals simp
theorem escs_le (l : List UInt8) : (escs l).length ≤ 2 * l.length := by
  induction l with
  | nil => simp [escs]
  | cons c r ih => have := esc_le c; simp only [escs, List.flatMap_cons, List.length_append, List.length_cons] at *; omega
theorem escs_snoc (l : List UInt8) (c : UInt8) : escs (l ++ [c]) = escs l ++ esc c := by simp [escs]
theorem escs_nil : escs [] = [] := rfl

/-- What stands for a byte behind a backslash. -/
def meant (c : UInt8) : Option UInt8 := if c = 92 then some 92 else if c = 34 then some 34 else if c = 110 then some 10 else if c = 116 then some 9 else none

/-- The text's rest, behind i bytes, acc being what was read: the text and where it ends. -/
def body : List UInt8 → List UInt8 → Nat → Option (List UInt8 × Nat)
  | [], _, _ => none
  | c :: r, acc, i =>
    if c = 34 then some (acc, i + 1)
    else if c = 10 then none
    else if c = 92 then
      match r with
      | [] => none
      | d :: r' => match meant d with
        | none => none
        | some m => body r' (acc ++ [m]) (i + 2)
    else body r (acc ++ [c]) (i + 1)
/-- The text that l begins with, and how many bytes it takes. -/
def unquote (l : List UInt8) : Option (List UInt8 × Nat) := match l with
  | [] => none
  | c :: r => if c = 34 then body r [] 1 else none

theorem body_nil (acc : List UInt8) (i : Nat) : body [] acc i = none := by rw [body.eq_def]
theorem body_quote (r acc : List UInt8) (i : Nat) : body (34 :: r) acc i = some (acc, i + 1) := by rw [body.eq_def]; simp
theorem body_line (r acc : List UInt8) (i : Nat) : body (10 :: r) acc i = none := by rw [body.eq_def]; simp
theorem body_end (acc : List UInt8) (i : Nat) : body [92] acc i = none := by rw [body.eq_def]; simp
theorem body_bad (d : UInt8) (r acc : List UInt8) (i : Nat) (h : meant d = none) : body (92 :: d :: r) acc i = none := by rw [body.eq_def]; simp [h]
theorem body_good (d m : UInt8) (r acc : List UInt8) (i : Nat) (h : meant d = some m) : body (92 :: d :: r) acc i = body r (acc ++ [m]) (i + 2) := by rw [body.eq_def]; simp [h]
theorem body_plain (c : UInt8) (r acc : List UInt8) (i : Nat) (h1 : c ≠ 34) (h2 : c ≠ 10) (h3 : c ≠ 92) : body (c :: r) acc i = body r (acc ++ [c]) (i + 1) := by rw [body.eq_def]; simp [h1, h2, h3]

end Go.Proofs.YtjmgfhbadnechaaDoor.Plw
