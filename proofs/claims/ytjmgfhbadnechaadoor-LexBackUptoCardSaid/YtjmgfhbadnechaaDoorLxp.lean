/- Tokens: what they are, how they are written, how a list of them is joined. No program in sight. -/
import Derived.Test.YtjmgfhbadnechaaDoorNam
import Derived.Test.YtjmgfhbadnechaaDoorPlb
set_option linter.unusedVariables false
namespace Go.Proofs.YtjmgfhbadnechaaDoor.Lxp

structure Tok where
  kind : Int
  text : ByteArray
  num : Int
  pos : Int
  line : Int
def zero : Tok := ⟨0, ⟨#[]⟩, 0, 0, 0⟩
def Tok.ok (t : Tok) : Prop := -9223372036854775808 ≤ t.num ∧ t.num ≤ 9223372036854775807 ∧ t.text.size ≤ 35184372088832

def signs : List ByteArray := [⟨#[33, 61]⟩, ⟨#[38, 38]⟩, ⟨#[43, 43]⟩, ⟨#[45, 45]⟩, ⟨#[58, 61]⟩, ⟨#[60, 45]⟩, ⟨#[60, 61]⟩, ⟨#[61, 61]⟩, ⟨#[62, 61]⟩, ⟨#[124, 124]⟩, ⟨#[33]⟩, ⟨#[37]⟩, ⟨#[40]⟩, ⟨#[41]⟩, ⟨#[42]⟩, ⟨#[43]⟩, ⟨#[44]⟩, ⟨#[45]⟩, ⟨#[46]⟩, ⟨#[47]⟩, ⟨#[58]⟩, ⟨#[59]⟩, ⟨#[60]⟩, ⟨#[61]⟩, ⟨#[62]⟩, ⟨#[123]⟩, ⟨#[125]⟩]
theorem signs_length : signs.length = 27 := rfl
/-- Does a text stand in a list? -/
def within (l : List ByteArray) (x : ByteArray) : Bool := l.any (fun y => y.data.toList == x.data.toList)
theorem within_iff (l : List ByteArray) (x : ByteArray) : within l x = true ↔ x ∈ l := by
  unfold within
  rw [List.any_eq_true]
  constructor
  · rintro ⟨y, hy, e⟩
    rw [← Plo.ba_ext (eq_of_beq e)]; exact hy
  · intro h
    exact ⟨x, h, beq_self_eq_true _⟩
theorem within_true {l : List ByteArray} {x : ByteArray} (h : x ∈ l) : within l x = true := (within_iff l x).2 h
theorem within_false {l : List ByteArray} {x : ByteArray} (h : x ∉ l) : within l x = false := by
  cases e : within l x with
  | false => rfl
  | true => exact absurd ((within_iff l x).1 e) h

def semi : ByteArray := ⟨#[59]⟩
def eol : ByteArray := ⟨#[10]⟩
def isT (a b : ByteArray) : Bool := a.data.toList == b.data.toList
/-- A token as it is written; the last one may be the end. -/
def written (t : Tok) : Option ByteArray :=
  if t.kind = 0 then some ⟨#[]⟩
  else if t.kind = 1 then (if Nam.isName t.text = true then some t.text else none)
  else if t.kind = 2 then (if Plo.isWord t.text = true then some t.text else none)
  else if t.kind = 3 then (if 0 ≤ t.num then some ⟨(Lib.itoa t.num).toArray⟩ else none)
  else if t.kind = 4 then some ⟨(Plw.quote t.text.data.toList).toArray⟩
  else if t.kind = 5 then (if isT t.text semi = false ∧ within signs t.text = true then some t.text else none)
  else if t.kind = 6 then (if isT t.text semi = true ∨ isT t.text eol = true then some semi else none)
  else none
end Go.Proofs.YtjmgfhbadnechaaDoor.Lxp
