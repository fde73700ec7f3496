/- A file of two files' kids (plain). -/
import Derived.Test.YtgodeffkboihlaaGreatDoorM3
set_option linter.unusedVariables false
namespace Go.Proofs.YtgodeffkboihlaaGreatDoor.Tpa
set_option linter.unusedSimpArgs false
open Go.RowKit Tra Trb Trf Trd Tcn Trh Tha Txa Tpr Tpt Txi Txu Txv Txw Tqb Twb Twc Twd Twm Twn Tqh Twp Tfu Tbr Tbx

/-- A file's own data, where nothing else stands. -/
structure Plain (d : Nd) : Prop where
  k : d.k = 1
  text : d.text.size = 0
  ty : d.ty.size = 0
  n : d.n = 0
def ndF : Nd := ⟨1, ⟨#[]⟩, 0, ⟨#[]⟩, 0, 0, 0⟩
theorem plainF : Plain ndF := ⟨rfl, rfl, rfl, rfl⟩
def bothT (a b : Tr) : Tr := .mk ndF (a.kids ++ b.kids)
theorem Plain.has {d : Nd} (h : Plain d) : hasB false false false d = true := by
  have e1 : d.text.toList = [] := by
    have this : d.text.size = 0 := h.text
    apply List.eq_nil_of_length_eq_zero
    rw [Lib.toList_data, Tyq.size_len]; exact this
  have e2 : d.ty.toList = [] := by
    have := h.ty
    apply List.eq_nil_of_length_eq_zero
    rw [Lib.toList_data, Tyq.size_len]; exact this
  unfold hasB
  rw [e1, e2, h.n]; simp
theorem size_mk (t : Tr) : size t = 1 + sizes t.kids := by obtain ⟨d, ks⟩ := t; rfl
theorem depth_mk (t : Tr) : depth t = 1 + depths t.kids := by obtain ⟨d, ks⟩ := t; rfl
theorem size_both (a b : Tr) : size (bothT a b) + 1 = size a + size b := by
  rw [size_mk, size_mk a, size_mk b]
  show 1 + sizes (a.kids ++ b.kids) + 1 = _
  rw [sizes_append]; omega
theorem depth_both (a b : Tr) : depth (bothT a b) = max (depth a) (depth b) := by
  rw [depth_mk, depth_mk a, depth_mk b]
  show 1 + depths (a.kids ++ b.kids) = _
  rw [depths_append]; omega
theorem right_iff {t : Tr} (h : Plain t.d) (F : Nat) (hF : size t ≤ F) : rightT t = 0 ↔ depth t ≤ 40 ∧ t.kids.all (funT F) = true := by
  have e : t.kids.all (funT (size t)) = t.kids.all (funT F) := by
    have hs := size_mk t
    have : ∀ l : List Tr, sizes l ≤ sizes t.kids → l.all (funT (size t)) = l.all (funT F) := by
      intro l
      induction l with
      | nil => intro _; rfl
      | cons x l ih =>
        intro hl
        simp only [sizes] at hl
        rw [List.all_cons, List.all_cons, ih (by omega), funT_fuel (size t) F x (by omega) (by omega)]
    exact this _ (Nat.le_refl _)
  obtain ⟨d, ks⟩ := t
  simp only [Tr.d, Tr.kids] at h e ⊢
  unfold rightT rightN
  simp only [Tr.d, Tr.kids, h.has, h.k, e]
  by_cases h40 : 40 < min (depth (.mk d ks)) 41
  · rw [if_pos h40]
    constructor
    · intro h; cases h
    · intro h; omega
  · rw [if_neg h40]
    cases ks.all (funT F)
    · simp
    · simp; omega
theorem right_both {a b : Tr} (ha : Plain a.d) (hb : Plain b.d) : rightT (bothT a b) = 0 ↔ rightT a = 0 ∧ rightT b = 0 := by
  have hs := size_both a b
  have h1 := size_pos a
  have h2 := size_pos b
  rw [right_iff (t := bothT a b) plainF (size (bothT a b)) (Nat.le_refl _), right_iff ha (size (bothT a b)) (by omega), right_iff hb (size (bothT a b)) (by omega), depth_both]
  show _ ∧ (a.kids ++ b.kids).all _ = true ↔ _
  rw [List.all_append, Bool.and_eq_true]
  constructor
  · rintro ⟨h, h3, h4⟩; exact ⟨⟨by omega, h3⟩, by omega, h4⟩
  · rintro ⟨⟨h, h3⟩, h4, h5⟩; exact ⟨by omega, h3, h5⟩
theorem funs_left (E : Tr → Bs) (S : Nat → Tr → Bs) (l m : List Tr) : ∀ n, n ≤ l.length → funsTo E S (l ++ m) n = funsTo E S l n := by
  intro n
  induction n with
  | zero => intro _; rfl
  | succ n ih =>
    intro h
    have : kid n (l ++ m) = kid n l := by unfold kid; rw [List.getD_eq_getElem?_getD, List.getD_eq_getElem?_getD, List.getElem?_append_left (by omega)]
    simp only [funsTo, ih (by omega), this]
theorem funs_right (E : Tr → Bs) (S : Nat → Tr → Bs) (l m : List Tr) : ∀ n, n ≤ m.length → funsTo E S (l ++ m) (l.length + n) = funsTo E S l l.length ++ funsTo E S m n := by
  intro n
  induction n with
  | zero => intro _; rw [Nat.add_zero, funs_left E S l m _ (Nat.le_refl _)]; simp [funsTo]
  | succ n ih =>
    intro h
    have : kid (l.length + n) (l ++ m) = kid n m := by unfold kid; rw [List.getD_eq_getElem?_getD, List.getD_eq_getElem?_getD, List.getElem?_append_right (by omega)]; congr 2; omega
    rw [← Nat.add_assoc]
    simp only [funsTo, ih (by omega), this, List.append_assoc]
theorem funs_fuel (F G : Nat) (ks : List Tr) (hF : sizes ks ≤ F) (hG : sizes ks ≤ G) : ∀ n, n ≤ ks.length → funsTo (exprT F) (stmtT (exprT F) F) ks n = funsTo (exprT G) (stmtT (exprT G) G) ks n := by
  intro n
  induction n with
  | zero => intro _; rfl
  | succ n ih =>
    intro h
    have : size (kid n ks) ≤ sizes ks := size_kid (by omega)
    simp only [funsTo, ih (by omega), funX_fuel F G (kid n ks) (by omega) (by omega)]
theorem text_both (a b : Tr) : textT (bothT a b) = textT a ++ textT b := by
  have h0 := size_mk (bothT a b)
  have h1 := size_mk a
  have h2 := size_mk b
  have h3 := size_both a b
  unfold textT
  rw [funs_fuel (size a) (size (bothT a b)) a.kids (by omega) (by omega) _ (Nat.le_refl _), funs_fuel (size b) (size (bothT a b)) b.kids (by omega) (by omega) _ (Nat.le_refl _)]
  show funsTo _ _ (a.kids ++ b.kids) (a.kids ++ b.kids).length = _
  rw [List.length_append]
  exact funs_right _ _ _ _ _ (Nat.le_refl _)
theorem fit_both {a b : Tr} (ha : Fit a) (hb : Fit b) (za : size a ≤ 65536) (zb : size b ≤ 65536) : Fit (bothT a b) := by
  have h1 := size_mk a
  have h2 := size_mk b
  have h3 := length_sizes a.kids
  have h4 := length_sizes b.kids
  refine .mk _ _ ⟨?_, ?_, ?_, ?_, ?_, ?_, ?_⟩ (by rw [List.length_append]; omega) fun j hj => ?_
  · show In64 1; unfold In64; omega
  · show In64 0; unfold In64; omega
  · show In64 0; unfold In64; omega
  · show In64 0; unfold In64; omega
  · show In64 0; unfold In64; omega
  · show ByteArray.size ⟨#[]⟩ ≤ _; decide
  · show ByteArray.size ⟨#[]⟩ ≤ _; decide
  · rcases Nat.lt_or_ge j a.kids.length with h | h
    · have : (a.kids ++ b.kids).getD j tr0 = kid j a.kids := by unfold kid; rw [List.getD_eq_getElem?_getD, List.getD_eq_getElem?_getD, List.getElem?_append_left h]
      rw [this]; exact fit_in ha h
    · have : (a.kids ++ b.kids).getD j tr0 = kid (j - a.kids.length) b.kids := by unfold kid; rw [List.getD_eq_getElem?_getD, List.getD_eq_getElem?_getD, List.getElem?_append_right h]
      rw [this]; exact fit_in hb (by rw [List.length_append] at hj; omega)
/-- tree.Text of any tree, up to the size of two. -/
theorem text_any2 (t : Tr) (hF : Fit t) (hz : size t ≤ 131072) (S : Nat → Prop) (v : Value) (w : World) (hP : Twq.Pow w) (hv : Lies w S t v) :
    Calls Tryz.prog 11 #[v] w fun e w' => e = .returned (.tuple #[.string (textS t), .int .i64 (rightT t)]) ∧ Below w.heap.size w w' := by
  by_cases hr : rightT t = 0
  · have e : textS t = ⟨(textT t).toArray⟩ := by unfold textS; rw [if_pos hr]
    rw [e, hr]
    exact text_yes t hF (by omega) hr (text_most t hF (by omega) hr) S v w hP hv
  · have e : textS t = ⟨#[]⟩ := by unfold textS; rw [if_neg hr]
    rw [e]
    exact text_no t hF hr S v w hv
theorem cnt_of {t : Tr} (h : size t ≤ 262144) : cntV 262144 t = (size t : Int) := by
  unfold cntV
  rw [if_neg (by omega)]
  show ((min (size t) (262144 + 1) : Nat) : Int) = _
  congr 1; omega
theorem dep_of {t : Tr} (h : size t ≤ 262144) : depV 262144 t = (depth t : Int) := by
  have := depths_le_sizes t
  unfold depV
  rw [if_neg (by omega)]
  show ((min (depth t) (262144 + 1) : Nat) : Int) = _
  congr 1; omega
theorem textS_both {a b : Tr} (h1 : rightT a = 0) (h2 : rightT b = 0) (h3 : rightT (bothT a b) = 0) : (textS (bothT a b)).data.toList = (textS a).data.toList ++ (textS b).data.toList := by
  unfold textS
  rw [if_pos h1, if_pos h2, if_pos h3, text_both]
end Go.Proofs.YtgodeffkboihlaaGreatDoor.Tpa
