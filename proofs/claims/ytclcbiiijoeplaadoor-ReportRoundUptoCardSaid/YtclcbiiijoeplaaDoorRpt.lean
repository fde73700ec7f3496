/- The text of many rows: the plain side. -/
import Derived.Test.YtclcbiiijoeplaaDoorRpq
import Derived.Test.YtclcbiiijoeplaaDoorRbk
set_option linter.unusedVariables false
namespace Go.Proofs.YtclcbiiijoeplaaDoor.Rpt
open Go.RowKit Rpl Rwd Rmy Rln Rpp Rpq Rwo Rbk

/-- A line with its end. -/
def lineE (b : Bk) : List UInt8 := (lineL b).data.toList ++ [10]
/-- The lines of the first k rows. -/
def acc (l : List Bk) : Nat → List UInt8
  | 0 => []
  | k + 1 => acc l k ++ (lineL (l.getD k bk0)).data.toList ++ [10]
theorem acc_eq (l : List Bk) : ∀ k, k ≤ l.length → acc l k = (l.take k).flatMap lineE
  | 0, _ => by simp [acc]
  | k + 1, h => by
    have hk : k < l.length := by omega
    have e : l.getD k bk0 = l[k] := by simp [List.getD_eq_getElem?_getD, hk]
    rw [acc, acc_eq l k (by omega), List.take_succ_eq_append_getElem hk, List.flatMap_append, e]
    simp [lineE]
theorem acc_all (l : List Bk) : acc l l.length = l.flatMap lineE := by rw [acc_eq l _ (Nat.le_refl _), List.take_length]
def textL (l : List Bk) : Option ByteArray := if l.all may then some ⟨(acc l l.length).toArray⟩ else none
theorem textL_some {l : List Bk} (h : ∀ j, j < l.length → may (l.getD j bk0) = true) : textL l = some ⟨(acc l l.length).toArray⟩ := by
  have : l.all may = true := by
    rw [List.all_eq_true]
    intro x hx
    obtain ⟨j, hj, rfl⟩ := List.getElem_of_mem hx
    have := h j hj
    rwa [List.getD_eq_getElem?_getD, List.getElem?_eq_getElem hj] at this
  simp [textL, this]
theorem textL_none {l : List Bk} {k : Nat} (hk : k < l.length) (h : may (l.getD k bk0) = false) : textL l = none := by
  have : l.all may = false := by
    cases e : l.all may with
    | false => rfl
    | true =>
      have := List.all_eq_true.1 e l[k] (List.getElem_mem hk)
      rw [List.getD_eq_getElem?_getD, List.getElem?_eq_getElem hk] at h
      simp only [Option.getD_some] at h
      rw [this] at h; exact absurd h (by decide)
  simp [textL, this]
def Fits (l : List Bk) : Prop := l.length ≤ 1048576 ∧ ∀ j, j < l.length → (l.getD j bk0).fn.size ≤ 1048576
theorem ba_size (a b : ByteArray) : (a ++ b).size = a.size + b.size := ByteArray.size_append
theorem lineL_size {b : Bk} (hm : may b = true) : (lineL b).size ≤ b.fn.size + 90 := by
  obtain ⟨h1, h2, h3, h4, h5, h6⟩ := may_in hm
  have s1 := dec_le (n := b.ser) (by omega) h2
  have s2 := dec_le (n := b.lin) h3 h4
  have s3 := wd_size b.on
  unfold lineL
  simp only [ba_size]
  have e1 : ByteArray.size ⟨#[103, 111, 114, 111, 117, 116, 105, 110, 101, 32]⟩ = 10 := rfl
  have e2 : ByteArray.size ⟨#[32, 108, 105, 110, 101, 32]⟩ = 6 := rfl
  have e3 : ByteArray.size ⟨#[32]⟩ = 1 := rfl
  omega
theorem list_size (s : ByteArray) : s.data.toList.length = s.size := by rw [Array.length_toList]; rfl
theorem acc_length {l : List Bk} (hf : Fits l) : ∀ k, k ≤ l.length → (∀ j, j < k → may (l.getD j bk0) = true) → (acc l k).length ≤ k * 1048700 := by
  intro k
  induction k with
  | zero => intro _ _; simp [acc]
  | succ k ih =>
    intro hk hm
    have h1 := ih (by omega) (fun j hj => hm j (by omega))
    have h2 := lineL_size (hm k (by omega))
    have h3 := hf.2 k (by omega)
    simp only [acc, List.length_append, list_size, List.length_cons, List.length_nil]
    omega
theorem acc_room {l : List Bk} (hf : Fits l) (k : Nat) (hk : k ≤ l.length) (hm : ∀ j, j < k → may (l.getD j bk0) = true) : (acc l k).length + 1048700 + 1 ≤ 1100586419200 := by
  have h1 := acc_length hf k hk hm
  have h2 := hf.1
  have h3 : k * 1048700 ≤ 1048576 * 1048700 := Nat.mul_le_mul_right _ (by omega)
  omega
/-- How drowseref21.Text answers. -/
def routcome : Option ByteArray → Ending
  | some s => .returned (.tuple #[.string s, .bool true])
  | none => .returned (.tuple #[.string ⟨#[]⟩, .bool false])
/-- How report.Text answers. -/
def outcome : Option ByteArray → Ending
  | some s => .returned (.tuple #[.string s, .int .i64 0])
  | none => .returned (.tuple #[.string ⟨#[]⟩, .int .i64 211])
end Go.Proofs.YtclcbiiijoeplaaDoor.Rpt
