/- Which trees are right, as the program looks (plain). -/
import Derived.Test.YtgodeffkboihlaaGreatDoorTxa
set_option linter.unusedVariables false
namespace Go.Proofs.YtgodeffkboihlaaGreatDoor.Tpr
open Tra Trd Tha Txa Tyq

def zero (ks : List Tr) : Bool := ks.length == 0
def unS : List ByteArray := [⟨#[43]⟩, ⟨#[45]⟩, ⟨#[33]⟩, ⟨#[60, 45]⟩]
def meS : List ByteArray := [⟨#[76, 111, 99, 107]⟩, ⟨#[85, 110, 108, 111, 99, 107]⟩, ⟨#[65, 100, 100]⟩, ⟨#[68, 111, 110, 101]⟩, ⟨#[87, 97, 105, 116]⟩]
def nameB (d : Nd) (ks : List Tr) : Bool := properB d.text && (zero ks && hasB true false false d)
def intB (d : Nd) (ks : List Tr) : Bool := decide (0 ≤ d.n) && (zero ks && hasB false false true d)
def boolB (d : Nd) (ks : List Tr) : Bool := (d.n == 0 || d.n == 1) && (zero ks && hasB false false true d)
def nilB (d : Nd) (ks : List Tr) : Bool := zero ks && hasB false false false d
def unaryB (E : Tr → Bool) (d : Nd) (ks : List Tr) : Bool := Lib.containsS unS d.text && (ks.length == 1 && (hasB true false false d && E (ks.getD 0 tr0)))
def binaryB (E : Tr → Bool) (d : Nd) (ks : List Tr) : Bool := decide (0 < bindsN d.text) && (ks.length == 2 && (hasB true false false d && ks.all E))
def fourB (s : ByteArray) : Bool := s.toList == [108, 101, 110] || s.toList == [99, 97, 112] || s.toList == [99, 108, 111, 115, 101] || s.toList == [121, 105, 101, 108, 100]
def plnB (s : ByteArray) : Bool := s.toList == [112, 114, 105, 110, 116, 108, 110]
def itemOf (E : Tr → Bool) (t : Tr) : Bool := if t.d.k = 25 then hasB true false false t.d && zero t.kids else E t
def callB (E : Tr → Bool) (d : Nd) (ks : List Tr) : Bool :=
  if fourB d.text = true then hasB true false false d && ks.all E else if plnB d.text = true then hasB true false false d && ks.all (itemOf E) else properB d.text && (hasB true false false d && ks.all E)
def makeB (E : Tr → Bool) (d : Nd) (ks : List Tr) : Bool := decide (ks.length ≤ 1) && (hasB false true false d && (typeB d.ty && ks.all E))
def methodB (E : Tr → Bool) (d : Nd) (ks : List Tr) : Bool := decide (1 ≤ ks.length) && (hasB true false false d && (Lib.containsS meS d.text && ks.all E))
/-- An expression, by depth. -/
def exprB : Nat → Tr → Bool
  | 0, _ => false
  | f + 1, .mk d ks =>
    if d.k = 21 then nameB d ks else if d.k = 22 then intB d ks else if d.k = 23 then boolB d ks else if d.k = 24 then nilB d ks
    else if d.k = 26 then unaryB (exprB f) d ks else if d.k = 27 then binaryB (exprB f) d ks else if d.k = 28 then callB (exprB f) d ks
    else if d.k = 29 then makeB (exprB f) d ks else if d.k = 30 then methodB (exprB f) d ks else false
def noneB (d : Nd) (ks : List Tr) : Bool := d.k == 0 && (zero ks && hasB false false false d)
def targetB (d : Nd) (ks : List Tr) : Bool := d.k == 21 && (Nam.isName d.text && (zero ks && hasB true false false d))
def kd (ks : List Tr) : Nd := (ks.getD 0 tr0).d
def stepB (E : Tr → Bool) (d : Nd) (ks : List Tr) : Bool := (d.n == 1 || d.n == -1) && (hasB false false true d && (ks.length == 1 && ((kd ks).k == 21 && E (ks.getD 0 tr0))))
def sendB (E : Tr → Bool) (d : Nd) (ks : List Tr) : Bool := ks.length == 2 && (hasB false false false d && ks.all E)
def doB (E : Tr → Bool) (d : Nd) (ks : List Tr) : Bool := ks.length == 1 && (hasB false false false d && (((kd ks).k == 28 || (kd ks).k == 30 || recvB (kd ks)) && E (ks.getD 0 tr0)))
def blockB (P : Tr → Bool) (d : Nd) (ks : List Tr) : Bool := d.k == 4 && (hasB false false false d && ks.all P)
def varB (E : Tr → Bool) (d : Nd) (ks : List Tr) : Bool := properB d.text && (typeB d.ty && (decide (ks.length ≤ 1) && (hasB true true false d && ks.all E)))
def goB (E : Tr → Bool) (d : Nd) (ks : List Tr) : Bool := ks.length == 1 && (hasB false false false d && ((kd ks).k == 28 && (properB (kd ks).text && E (ks.getD 0 tr0))))
def retB (E : Tr → Bool) (d : Nd) (ks : List Tr) : Bool := decide (ks.length ≤ 1) && (hasB false false false d && ks.all E)
def brkB (d : Nd) (ks : List Tr) : Bool := zero ks && hasB false false false d
def paramB (d : Nd) (ks : List Tr) : Bool := d.k == 3 && (properB d.text && (typeB d.ty && (zero ks && hasB true true false d)))
end Go.Proofs.YtgodeffkboihlaaGreatDoor.Tpr
