/- A line cut at its blanks. -/
import Derived.Test.YtclcbiiijoeplaaDoorRrd
import Derived.Test.YtclcbiiijoeplaaDoorShelf
import Derived.Lib.SplitLaws
set_option linter.unusedVariables false
namespace Go.Proofs.YtclcbiiijoeplaaDoor.Rsp
open Go.RowKit Rpl Rwd Rmy Rln Rpp Rpq Rwo Rbk Rpt Rrd

abbrev sp : ByteArray := ⟨#[32]⟩
def glue (r : List UInt8) : List (List UInt8) → List UInt8
  | [] => r
  | y :: ys => y ++ 32 :: glue r ys
theorem ext_list (s : ByteArray) (a b : Nat) : (s.extract a b).data.toList = (s.data.toList.drop a).take (b - a) := extract_list s a b
theorem split_spec : ∀ (k : Nat) (s : ByteArray), ∃ ys r, Lib.splitB sp 0 k s = ys ++ [r] ∧ ys.length ≤ k ∧ (∀ y ∈ ys, solid y.data.toList) ∧ (ys.length < k → solid r.data.toList) ∧ s.data.toList = glue r.data.toList (ys.map (·.data.toList))
  | 0, s => ⟨[], s, rfl, Nat.le_refl _, by simp, by simp, rfl⟩
  | k + 1, s => by
    by_cases hm : Lib.indexB s sp = -1
    · refine ⟨[], s, Lib.splitB_miss _ _ _ _ hm, by simp, by simp, fun _ => ?_, rfl⟩
      have h1 : Lib.indexByte s.data.toList 32 = -1 := by rw [← Lib.index_one]; exact hm
      intro c hc e
      obtain ⟨i, hi, hic⟩ := List.getElem_of_mem hc
      exact Lib.indexByte_none h1 i (by rw [List.getElem?_eq_getElem hi, hic, e])
    · have hg := Lib.index_ge s.data.toList sp.data.toList
      obtain ⟨i, hi⟩ : ∃ i : Nat, Lib.indexB s sp = i := ⟨(Lib.indexB s sp).toNat, by
        have : (-1 : Int) ≤ Lib.indexB s sp := hg
        omega⟩
      have h1 : Lib.indexByte s.data.toList 32 = i := by rw [← Lib.index_one]; exact hi
      obtain ⟨h2, h3⟩ := Lib.indexByte_some h1
      obtain ⟨ys, r, e, h4, h5, h6, h7⟩ := split_spec k (s.extract (i + 1) s.size)
      obtain ⟨hi2, hi3⟩ := List.getElem?_eq_some_iff.1 h2
      refine ⟨s.extract 0 i :: ys, r, ?_, by simp; omega, ?_, fun h => h6 (by simp at h; omega), ?_⟩
      · rw [Lib.splitB_hit _ _ _ _ i hi]
        show s.extract 0 (i + 0) :: _ = _
        rw [Nat.add_zero]
        have : i + sp.size = i + 1 := rfl
        rw [this, e]; rfl
      · intro y hy
        rcases List.mem_cons.1 hy with rfl | hy
        · refine field_solid ?_
          intro j _ hj
          exact h3 j hj
        · exact h5 y hy
      · rw [List.map_cons, glue, ← h7]
        have e1 := field_cut (s := s) (a := 0) (i := i) (Nat.zero_le _) h2
        rw [List.drop_zero] at e1
        rw [e1]
        congr 2
        rw [ext_list, List.take_of_length_le]
        rw [List.length_drop, list_size]; exact Nat.le_refl _
/-- What SplitN tells of a line. -/
inductive Parts (s : ByteArray) : List ByteArray → Prop where
  | few (F : List ByteArray) (h : F.length < 6) (hw : Whose s none) : Parts s F
  | six (x0 x1 x2 x3 x4 r : ByteArray) (e : s.data.toList = parts x0.data.toList x1.data.toList x2.data.toList x3.data.toList x4.data.toList r.data.toList)
      (h0 : solid x0.data.toList) (h1 : solid x1.data.toList) (h2 : solid x2.data.toList) (h3 : solid x3.data.toList) (h4 : solid x4.data.toList) : Parts s [x0, x1, x2, x3, x4, r]
theorem whose_short {s : ByteArray} (h : s.size < 10) : Whose s none := by
  intro b _ e
  have : (lineL b).size = s.size := by rw [e]
  unfold lineL at this
  simp only [ba_size] at this
  have e1 : ByteArray.size ⟨#[103, 111, 114, 111, 117, 116, 105, 110, 101, 32]⟩ = 10 := rfl
  omega
theorem parts_of (s : ByteArray) : Parts s (Lib.splitB sp 0 (min 6 (s.size + 1) - 1) s) := by
  by_cases h : s.size < 5
  · refine .few _ ?_ (whose_short (by omega))
    have := Lib.splitB_length_le sp 0 (min 6 (s.size + 1) - 1) s
    omega
  · rw [show min 6 (s.size + 1) - 1 = 5 by omega]
    obtain ⟨ys, r, e, h4, h5, h6, h7⟩ := split_spec 5 s
    rw [e]
    match ys, h4, h5, h6, h7 with
    | [], _, h5, h6, h7 => exact .few _ (by simp) (none0 (by rw [h7]; exact h6 (by simp)))
    | [x0], _, h5, h6, h7 => exact .few _ (by simp) (none1 h7 (h5 _ (by simp)) (h6 (by simp)))
    | [x0, x1], _, h5, h6, h7 => exact .few _ (by simp) (none2 h7 (h5 _ (by simp)) (h5 _ (by simp)) (h6 (by simp)))
    | [x0, x1, x2], _, h5, h6, h7 => exact .few _ (by simp) (none3 h7 (h5 _ (by simp)) (h5 _ (by simp)) (h5 _ (by simp)) (h6 (by simp)))
    | [x0, x1, x2, x3], _, h5, h6, h7 => exact .few _ (by simp) (none4 h7 (h5 _ (by simp)) (h5 _ (by simp)) (h5 _ (by simp)) (h5 _ (by simp)) (h6 (by simp)))
    | [x0, x1, x2, x3, x4], _, h5, h6, h7 => exact .six x0 x1 x2 x3 x4 r h7 (h5 _ (by simp)) (h5 _ (by simp)) (h5 _ (by simp)) (h5 _ (by simp)) (h5 _ (by simp))
    | _ :: _ :: _ :: _ :: _ :: _ :: _, h4, _, _, _ => simp at h4
/-- strings.SplitN(s, " ", 6). -/
theorem splitn (s : ByteArray) (m : Int) (w : World) (hs : s.size < 4294967281) (hm : w.cell? ⟨1, 0, none⟩ = some (.int .i64 m)) :
    Calls Tryd.prog 46 #[.string s, .string sp, .int .i64 6] w fun e w' => ∃ F n, Parts s F ∧ F.length ≤ n ∧ e = .returned (.slice (some ⟨w.heap.size, 0, none⟩) F.length n) ∧ w' = w.alloc (.cells (Lib.cellsOf F n) 9) :=
  (Tryd.strings_SplitN s sp 6 m w hs hm (by decide) (by decide) (by decide)).mono fun _ _ h => ⟨_, _, parts_of s, by have := Lib.splitB_length_le sp 0 (min 6 (s.size + 1) - 1) s; omega, h.1, h.2⟩
end Go.Proofs.YtclcbiiijoeplaaDoor.Rsp
