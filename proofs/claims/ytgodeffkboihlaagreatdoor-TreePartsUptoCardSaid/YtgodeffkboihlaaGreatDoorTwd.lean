/- What is written of a right tree (plain); the signs + and -. -/
import Derived.Test.YtgodeffkboihlaaGreatDoorTwc
import Derived.Test.YtgodeffkboihlaaGreatDoorM6
import Derived.Test.YtgodeffkboihlaaGreatDoorTqe
set_option linter.unusedVariables false
namespace Go.Proofs.YtgodeffkboihlaaGreatDoor.Twd
open Go.RowKit Tra Trb Trf Trd Tcn Trh Tha Txa Tpr Tpt Twa Twb Twc

abbrev s8 (s : ByteArray) : Bs := s.data.toList
def signB (s : ByteArray) : Bool := s.data.toList == [43] || s.data.toList == [45]
def mustU (d u : Nd) : Bool := (signB d.text && (u.k == 26 && signB u.text)) || u.k == 27
def mustL (d u : Nd) : Bool := u.k == 27 && decide (bindsN u.text < bindsN d.text)
def mustR (d u : Nd) : Bool := u.k == 27 && decide (bindsN u.text ≤ bindsN d.text)
def mustM (u : Nd) : Bool := u.k == 27 || u.k == 26
abbrev kid (j : Nat) (ks : List Tr) : Tr := ks.getD j tr0
def unaryX (E : Tr → Bs) (d : Nd) (ks : List Tr) : Bs := s8 d.text ++ heldT E (mustU d (kid 0 ks).d) (kid 0 ks)
def binaryX (E : Tr → Bs) (d : Nd) (ks : List Tr) : Bs := heldT E (mustL d (kid 0 ks).d) (kid 0 ks) ++ (([32] ++ s8 d.text ++ [32]) ++ heldT E (mustR d (kid 1 ks).d) (kid 1 ks))
def callX (E : Tr → Bs) (d : Nd) (ks : List Tr) : Bs := (s8 d.text ++ [40]) ++ (commas E ks ++ [41])
def makeX (E : Tr → Bs) (d : Nd) (ks : List Tr) : Bs := ([109, 97, 107, 101, 40] ++ s8 d.ty) ++ ((if ks.length = 1 then [44, 32] ++ E (kid 0 ks) else []) ++ [41])
def methodX (E : Tr → Bs) (d : Nd) (ks : List Tr) : Bs := heldT E (mustM (kid 0 ks).d) (kid 0 ks) ++ (([46] ++ s8 d.text ++ [40]) ++ (commas E (ks.drop 1) ++ [41]))
/-- An expression's text, by depth. -/
def exprT : Nat → Tr → Bs
  | 0, _ => []
  | f + 1, .mk d ks =>
    if d.k = 21 then s8 d.text else if d.k = 22 then Lib.itoa d.n else if d.k = 23 then (if d.n = 0 then [102, 97, 108, 115, 101] else [116, 114, 117, 101])
    else if d.k = 24 then [110, 105, 108] else if d.k = 25 then Plw.quote (s8 d.text) else if d.k = 26 then unaryX (exprT f) d ks else if d.k = 27 then binaryX (exprT f) d ks
    else if d.k = 28 then callX (exprT f) d ks else if d.k = 29 then makeX (exprT f) d ks else if d.k = 30 then methodX (exprT f) d ks else []
def letX (E : Tr → Bs) (eq : Bs) (m : Nat) (ks : List Tr) : Bs := commas E (ks.take m) ++ (eq ++ E (kid m ks))
def simpleX (E : Tr → Bs) (d : Nd) (ks : List Tr) : Bs :=
  if d.k = 6 then letX E [32, 58, 61, 32] d.n.toNat ks else if d.k = 7 then letX E [32, 61, 32] d.n.toNat ks
  else if d.k = 8 then s8 (kid 0 ks).d.text ++ (if d.n = 1 then [43, 43] else [45, 45])
  else if d.k = 9 then E (kid 0 ks) ++ ([32, 60, 45, 32] ++ E (kid 1 ks)) else if d.k = 10 then E (kid 0 ks) else []
def simpleTx (E : Tr → Bs) (t : Tr) : Bs := simpleX E t.d t.kids
/-- Some of the lines of a block. -/
def linesTo (S : Nat → Tr → Bs) (k : Nat) (ks : List Tr) : Nat → Bs
  | 0 => []
  | n + 1 => linesTo S k ks n ++ (tabsT (k + 1) ++ (S (k + 1) (kid n ks) ++ [10]))
def linesX (S : Nat → Tr → Bs) (k : Nat) (ks : List Tr) : Bs := linesTo S k ks ks.length
def blockX (S : Nat → Tr → Bs) (k : Nat) (t : Tr) : Bs := [123, 10] ++ (linesX S k t.kids ++ (tabsT k ++ [125]))
def head1 (E : Tr → Bs) (ks : List Tr) : Bs := E (kid 0 ks) ++ [32]
def head2 (E : Tr → Bs) (ks : List Tr) : Bs :=
  simpleTx E (kid 0 ks) ++ ([59] ++ ((if (kid 1 ks).d.k = 0 then [] else [32] ++ E (kid 1 ks)) ++ ([59] ++ ((if (kid 2 ks).d.k = 0 then [] else [32] ++ simpleTx E (kid 2 ks)) ++ [32]))))
def head3 (E : Tr → Bs) (d : Nd) (ks : List Tr) : Bs :=
  (if d.text.toList.isEmpty then [] else s8 (kid 0 ks).d.text ++ [32] ++ s8 d.text ++ [32]) ++ ([114, 97, 110, 103, 101, 32] ++ (E (kid 1 ks) ++ [32]))
def headX (E : Tr → Bs) (d : Nd) (ks : List Tr) : Bs := if d.n = 1 then head1 E ks else if d.n = 2 then head2 E ks else if d.n = 3 then head3 E d ks else []
def clauseHead (E : Tr → Bs) (t : Tr) : Bs :=
  if t.d.n = 1 then [100, 101, 102, 97, 117, 108, 116] else if t.d.k = 14 then [99, 97, 115, 101, 32] ++ commas E (t.kids.take (t.kids.length - 1)) else [99, 97, 115, 101, 32] ++ simpleTx E (kid 0 t.kids)
def clauseX (E : Tr → Bs) (S : Nat → Tr → Bs) (k : Nat) (t : Tr) : Bs := tabsT k ++ (clauseHead E t ++ ([58, 10] ++ linesX S k (kid (t.kids.length - 1) t.kids).kids))
def clausesTo (E : Tr → Bs) (S : Nat → Tr → Bs) (k : Nat) (ks : List Tr) : Nat → Bs
  | 0 => []
  | n + 1 => clausesTo E S k ks n ++ clauseX E S k (kid n ks)
def clausesX (E : Tr → Bs) (S : Nat → Tr → Bs) (k : Nat) (ks : List Tr) : Bs := [123, 10] ++ (clausesTo E S k ks ks.length ++ (tabsT k ++ [125]))
def varX (E : Tr → Bs) (d : Nd) (ks : List Tr) : Bs := ([118, 97, 114, 32] ++ s8 d.text ++ [32] ++ s8 d.ty) ++ (if ks.length = 1 then [32, 61, 32] ++ E (kid 0 ks) else [])
def ifX (E : Tr → Bs) (S : Nat → Tr → Bs) (k : Nat) (ks : List Tr) : Bs :=
  [105, 102, 32] ++ (E (kid 0 ks) ++ ([32] ++ (blockX S k (kid 1 ks) ++ (if ks.length = 3 then [32, 101, 108, 115, 101, 32] ++ S k (kid 2 ks) else []))))
def forX (E : Tr → Bs) (S : Nat → Tr → Bs) (k : Nat) (d : Nd) (ks : List Tr) : Bs := [102, 111, 114, 32] ++ (headX E d ks ++ blockX S k (kid (ks.length - 1) ks))
def switchX (E : Tr → Bs) (S : Nat → Tr → Bs) (k : Nat) (d : Nd) (ks : List Tr) : Bs :=
  [115, 119, 105, 116, 99, 104, 32] ++ ((if d.n = 1 then E (kid 0 ks) ++ [32] else []) ++ clausesX E S k (ks.drop d.n.toNat))
def selectX (E : Tr → Bs) (S : Nat → Tr → Bs) (k : Nat) (ks : List Tr) : Bs := [115, 101, 108, 101, 99, 116, 32] ++ clausesX E S k ks
def goX (E : Tr → Bs) (ks : List Tr) : Bs := [103, 111, 32] ++ E (kid 0 ks)
def retX (E : Tr → Bs) (ks : List Tr) : Bs := [114, 101, 116, 117, 114, 110] ++ (if ks.length = 1 then [32] ++ E (kid 0 ks) else [])
/-- A statement's text, by depth. -/
def stmtT (E : Tr → Bs) : Nat → Nat → Tr → Bs
  | 0, _, _ => []
  | f + 1, k, .mk d ks =>
    if d.k = 4 then blockX (stmtT E f) k (.mk d ks) else if d.k = 5 then varX E d ks else if d.k = 11 then ifX E (stmtT E f) k ks else if d.k = 12 then forX E (stmtT E f) k d ks
    else if d.k = 13 then switchX E (stmtT E f) k d ks else if d.k = 15 then selectX E (stmtT E f) k ks else if d.k = 17 then goX E ks else if d.k = 18 then retX E ks
    else if d.k = 19 then [98, 114, 101, 97, 107] else if d.k = 20 then [99, 111, 110, 116, 105, 110, 117, 101] else simpleX E d ks
def paramX (t : Tr) : Bs := s8 t.d.text ++ [32] ++ s8 t.d.ty
def funX (E : Tr → Bs) (S : Nat → Tr → Bs) (t : Tr) : Bs :=
  ([102, 117, 110, 99, 32] ++ s8 t.d.text ++ [40]) ++ (commas paramX (t.kids.take (t.kids.length - 1)) ++ ([41, 32] ++ ((if t.d.ty.toList.isEmpty then [] else s8 t.d.ty ++ [32]) ++ (blockX S 0 (kid (t.kids.length - 1) t.kids) ++ [10]))))
def funsTo (E : Tr → Bs) (S : Nat → Tr → Bs) (ks : List Tr) : Nat → Bs
  | 0 => []
  | n + 1 => funsTo E S ks n ++ funX E S (kid n ks)
/-- A file's text. -/
def textT (t : Tr) : Bs := funsTo (exprT (size t)) (stmtT (exprT (size t)) (size t)) t.kids t.kids.length
theorem kid_at {B b o c kb ko : Nat} {w : World} {d : Nd} {ks : List Tr} (h : Nb B w b o d ks (some ⟨kb, ko, none⟩) c) {j : Nat} (hj : j < ks.length) : At w (fun b => b < B) (kid j ks) kb (ko + j * 8) := kl_at h.kl hj
set_option maxHeartbeats 1000000 in
set_option maxRecDepth 100000 in
theorem contains2 (w : World) : Calls Tryz.prog 115 #[.string ⟨#[43, 45]⟩, .string ⟨#[60, 45]⟩] w fun e w' => e = .returned (.bool false) ∧ w = w' := by
  go_enter Tryz.func115, Tryz.ntmps115
  go_wp2
  go_ret
  exact ⟨rfl, rfl⟩
theorem signs_any (s : ByteArray) (h : Lib.containsS unS s = true) (w : World) : Calls Tryz.prog 115 #[.string ⟨#[43, 45]⟩, .string s] w fun e w' => e = .returned (.bool (signB s)) ∧ w = w' := by
  have hm := (Lib.containsS_iff _ _).1 h
  have one := fun c W => (Tryz.strings_Contains_one ⟨#[43, 45]⟩ c W).mono (fun e w' (h : e = _ ∧ w' = W) => (⟨h.1, h.2.symm⟩ : e = _ ∧ W = w'))
  simp only [unS, List.mem_cons, List.not_mem_nil, or_false] at hm
  rcases hm with rfl | rfl | rfl | rfl
  · exact one 43 w
  · exact one 45 w
  · exact one 33 w
  · exact contains2 w
end Go.Proofs.YtgodeffkboihlaaGreatDoor.Twd
