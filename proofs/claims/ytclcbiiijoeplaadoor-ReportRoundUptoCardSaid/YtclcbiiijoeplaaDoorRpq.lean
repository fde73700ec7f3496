/- What field answers, as a cut of the text; no line where a blank lacks. -/
import Derived.Test.YtclcbiiijoeplaaDoorRpp
set_option linter.unusedVariables false
namespace Go.Proofs.YtclcbiiijoeplaaDoor.Rpq
open Go.RowKit Rpl Rwd Rmy Rln Rfd Rnb Rpp

theorem extract_list (s : ByteArray) (a i : Nat) : (s.extract a i).data.toList = (s.data.toList.drop a).take (i - a) := by
  rw [ByteArray.data_extract, Array.toList_extract, List.extract_eq_take_drop]
theorem field_cut {s : ByteArray} {a i : Nat} (h : a ≤ i) (g : s.data.toList[i]? = some 32) : s.data.toList.drop a = (s.extract a i).data.toList ++ 32 :: s.data.toList.drop (i + 1) := by
  rw [extract_list]
  obtain ⟨hi, e⟩ := List.getElem?_eq_some_iff.1 g
  have h1 : s.data.toList.drop i = 32 :: s.data.toList.drop (i + 1) := by rw [List.drop_eq_getElem_cons hi, e]
  have h2 : (s.data.toList.drop a).drop (i - a) = s.data.toList.drop i := by rw [List.drop_drop]; congr 1; omega
  rw [← h1, ← h2, List.take_append_drop]
theorem field_solid {s : ByteArray} {a i : Nat} (f : free s.data.toList a i) : solid (s.extract a i).data.toList := by
  rw [extract_list]
  intro c hc h
  obtain ⟨j, hj, e⟩ := List.getElem_of_mem hc
  rw [List.getElem_take, List.getElem_drop] at e
  rw [List.length_take, List.length_drop] at hj
  refine f (a + j) (by omega) (by omega) ?_
  rw [List.getElem?_eq_getElem (by omega), e, h]
theorem rest_solid {s : ByteArray} {a : Nat} (f : free s.data.toList a s.size) : solid (s.data.toList.drop a) := by
  intro c hc h
  obtain ⟨j, hj, e⟩ := List.getElem_of_mem hc
  rw [List.getElem_drop] at e
  rw [List.length_drop] at hj
  have hl : s.data.toList.length = s.size := by rw [Array.length_toList]; rfl
  refine f (a + j) (by omega) (by omega) ?_
  rw [List.getElem?_eq_getElem (by omega), e, h]
/-- Of a line the rest behind k fields is the next field and more. -/
theorem line_list {s : ByteArray} {b : Bk} (h : lineL b = s) : s.data.toList = parts gor (dec b.ser).data.toList lin (dec b.lin).data.toList (wd b.on).data.toList b.fn.data.toList := by rw [← h, line_parts]
theorem none0 {s : ByteArray} (h0 : solid s.data.toList) : Whose s none := by
  intro b _ h
  exact cut_none h0 (line_list h)
theorem none1 {s : ByteArray} {x0 r : List UInt8} (e0 : s.data.toList = x0 ++ 32 :: r) (h0 : solid x0) (h1 : solid r) : Whose s none := by
  intro b _ h
  have e := e0.symm.trans (line_list h)
  exact cut_none h1 (cut_unique h0 solid_gor e).2
theorem none2 {s : ByteArray} {x0 x1 r : List UInt8} (e0 : s.data.toList = x0 ++ 32 :: (x1 ++ 32 :: r)) (h0 : solid x0) (h1 : solid x1) (h2 : solid r) : Whose s none := by
  intro b _ h
  have e := e0.symm.trans (line_list h)
  exact cut_none h2 (cut_unique h1 (solid_dec _) (cut_unique h0 solid_gor e).2).2
theorem none3 {s : ByteArray} {x0 x1 x2 r : List UInt8} (e0 : s.data.toList = x0 ++ 32 :: (x1 ++ 32 :: (x2 ++ 32 :: r))) (h0 : solid x0) (h1 : solid x1) (h2 : solid x2) (h3 : solid r) : Whose s none := by
  intro b _ h
  have e := e0.symm.trans (line_list h)
  exact cut_none h3 (cut_unique h2 solid_lin (cut_unique h1 (solid_dec _) (cut_unique h0 solid_gor e).2).2).2
theorem none4 {s : ByteArray} {x0 x1 x2 x3 r : List UInt8} (e0 : s.data.toList = x0 ++ 32 :: (x1 ++ 32 :: (x2 ++ 32 :: (x3 ++ 32 :: r)))) (h0 : solid x0) (h1 : solid x1) (h2 : solid x2) (h3 : solid x3) (h4 : solid r) : Whose s none := by
  intro b _ h
  have e := e0.symm.trans (line_list h)
  exact cut_none h4 (cut_unique h3 (solid_dec _) (cut_unique h2 solid_lin (cut_unique h1 (solid_dec _) (cut_unique h0 solid_gor e).2).2).2).2
/-- Five fields and a rest: whose line it may be. -/
theorem whose_fields {s : ByteArray} {b : Bk} {x0 x1 x2 x3 x4 r : ByteArray} (e : s.data.toList = parts x0.data.toList x1.data.toList x2.data.toList x3.data.toList x4.data.toList r.data.toList)
    (h0 : solid x0.data.toList) (h1 : solid x1.data.toList) (h2 : solid x2.data.toList) (h3 : solid x3.data.toList) (h4 : solid x4.data.toList) (hm : may b = true) (h : lineL b = s) :
    x0.data.toList = gor ∧ x1 = dec b.ser ∧ x2.data.toList = lin ∧ x3 = dec b.lin ∧ x4 = wd b.on ∧ r = b.fn := by
  have e := (line_list h).symm.trans e
  obtain ⟨e0, e1, e2, e3, e4, e5⟩ := parts_unique solid_gor (solid_dec _) solid_lin (solid_dec _) (solid_wd _) h0 h1 h2 h3 h4 e
  exact ⟨e0.symm, (ba_ext e1).symm, e2.symm, (ba_ext e3).symm, (ba_ext e4).symm, (ba_ext e5).symm⟩
end Go.Proofs.YtclcbiiijoeplaaDoor.Rpq
