/- tree.clauses$1 at any clause; tree.clauses. -/
import Derived.Test.YtgodeffkboihlaaGreatDoorTqc
set_option linter.unusedVariables false
namespace Go.Proofs.YtgodeffkboihlaaGreatDoor.Tqd
open Go.RowKit Go.Sort Tra Trb Trf Trd Tcn Trh Tha Nam Txa Tpr Tyq Txe Txg Txs Txi Txu Txv Txw Tqb Tpt Tqc

variable {F : FuncId} {q r c B : Nat} {w w' : World}
theorem clauseB_no {P is : Tr → Bool} {d : Nd} {ks : List Tr} (h : okB P d ks = false) : clauseB P is c (.mk d ks) = false := by
  unfold clauseB; simp only [Tr.d, Tr.kids]; rw [h]; rfl
def one1 (d : Nd) : Nat := if d.n = 1 then 1 else 0
theorem clauseB_is {P is : Tr → Bool} {d : Nd} {ks : List Tr} (h : okB P d ks = true) (hn : d.n = 0) : clauseB P is c (.mk d ks) = is (.mk d ks) := by
  unfold clauseB
  show (okB P d ks && _) = _
  rw [h, Bool.true_and]
  exact if_neg (fun e : d.n = 1 => by rw [hn] at e; cases e)
theorem clauseB_def {P is : Tr → Bool} {d : Nd} {ks : List Tr} (h : okB P d ks = true) (hn : d.n = 1) : clauseB P is c (.mk d ks) = (c == 0 && ks.length == 1) := by
  unfold clauseB
  show (okB P d ks && _) = _
  rw [h, Bool.true_and]
  exact if_pos hn
theorem clause_any (P is : Tr → Bool) (t : Tr) (hF : Fit t) (ihb : ∀ j, j < t.kids.length → Pays 38 (blockT P) (t.kids.getD j tr0)) (hf : Enters Tryz.prog F) (hi : Pays F is t) (hc : c ≤ 1048576) (b o : Nat) (hC : Cap F q r c w) (hBq : B ≤ q) (hBr : B ≤ r) (hA : At w (fun b => b < B) t b o) :
    Calls Tryz.prog 144 #[.pointer (some ⟨b, o, none⟩), .pointer (some ⟨q, 0, none⟩), .pointer (some ⟨r, 0, none⟩)] w fun e w' => e = .returned (.bool (clauseB P is c t)) ∧ (clauseB P is c t = true → Cap F q r (c + one1 t.d) w') ∧ Below B w w' := by
  have hBw : B ≤ w.heap.size := Nat.le_trans hBq (Nat.le_of_lt (Array.getElem?_eq_some_iff.1 hC.q).1)
  obtain ⟨d, ks⟩ := t
  simp only [Tr.d, Tr.kids] at ihb ⊢
  have no : okB P d ks = false → (Calls Tryz.prog 144 #[.pointer (some ⟨b, o, none⟩), .pointer (some ⟨q, 0, none⟩), .pointer (some ⟨r, 0, none⟩)] w fun e w' => e = .returned (.bool false) ∧ Below w.heap.size w w') →
      Calls Tryz.prog 144 #[.pointer (some ⟨b, o, none⟩), .pointer (some ⟨q, 0, none⟩), .pointer (some ⟨r, 0, none⟩)] w fun e w' => e = .returned (.bool (clauseB P is c (.mk d ks))) ∧ (clauseB P is c (.mk d ks) = true → Cap F q r (c + one1 d) w') ∧ Below B w w' := by
    intro h1 h2
    refine h2.mono ?_
    rintro e w' ⟨rfl, hb⟩
    rw [clauseB_no h1]
    exact ⟨rfl, by simp, hb.mono hBw⟩
  by_cases hn : d.n = 0 ∨ d.n = 1
  rotate_left
  · have hn' : d.n ≠ 0 ∧ d.n ≠ 1 := ⟨fun h => hn (.inl h), fun h => hn (.inr h)⟩
    refine no ?_ (clause_num d ks hn' _ b o q r w hA)
    unfold okB; rw [beq_false_of_ne hn'.1, beq_false_of_ne hn'.2]; rfl
  cases hh : hasB false false true d
  · refine no ?_ (clause_has d ks hF hn hh _ b o q r w hA)
    unfold okB; rw [hh]; simp
  cases ks with
  | nil =>
    refine no ?_ (clause_none d hn hh _ b o q r w hA)
    unfold okB; simp
  | cons k0 kr =>
    obtain ⟨m, hm⟩ : ∃ m, (k0 :: kr).length = m + 1 := ⟨kr.length, rfl⟩
    have hbm := ihb m (by omega)
    cases hbk : blockT P (kn m (k0 :: kr))
    · refine no ?_ (clause_block P d (k0 :: kr) m hm hF hn hh hbk hbm _ b o q r w hA)
      unfold okB; rw [hm]; simp [hbk]
    · have hok : okB P d (k0 :: kr) = true := by
        unfold okB
        rw [hm, Nat.add_sub_cancel, hbk, hh]
        rcases hn with h | h <;> simp [h]
      rcases hn with h | h
      · rw [clauseB_is hok h, show one1 d = 0 from if_neg (fun e : d.n = 1 => by rw [h] at e; cases e)]
        refine (clause_is P is d (k0 :: kr) m hm hF h hh hbk hbm hf hi hc b o hC hBq hBr hA).mono ?_
        rintro e w' ⟨rfl, h1, h2⟩
        exact ⟨rfl, fun _ => h1, h2⟩
      · rw [clauseB_def hok h, show one1 d = 1 from if_pos h]
        refine (clause_def P is d (k0 :: kr) m hm hF h hh hbk hbm hf hi hc b o hC hBq hBr hA).mono ?_
        rintro e w' ⟨rfl, h1, h2⟩
        exact ⟨rfl, fun _ => h1, h2⟩
theorem clausesB_iff (P is : Tr → Bool) (ks : List Tr) : clausesB P is ks = true ↔ ∀ j, j < ks.length → clauseB P is (defs (ks.take j)) (ks.getD j tr0) = true := by
  unfold clausesB
  rw [List.all_eq_true]
  exact ⟨fun h j hj => h j (List.mem_range.2 hj), fun h j hj => h j (List.mem_range.1 hj)⟩
theorem enters_clause : Enters Tryz.prog 144 := enters_of Tryz.func144 (by kernel_rfl) rfl
set_option maxHeartbeats 8000000 in
set_option maxRecDepth 100000 in
theorem clauses_any (P is : Tr → Bool) (ks : List Tr) (a : Option Addr) (cc : Nat) (hlen : ks.length ≤ 1048576) (hF : ∀ j, j < ks.length → Fit (ks.getD j tr0))
    (ihb : ∀ j, j < ks.length → ∀ i, i < (ks.getD j tr0).kids.length → Pays 38 (blockT P) ((ks.getD j tr0).kids.getD i tr0)) (hf : Enters Tryz.prog F) (hi : ∀ j, j < ks.length → Pays F is (ks.getD j tr0)) (S : Nat → Prop) (w : World) (hK : KL w S ks a) :
    Calls Tryz.prog 106 #[.slice a ks.length cc, .func (.func F) #[] #[]] w fun e w' => e = .returned (.bool (clausesB P is ks)) ∧ Below w.heap.size w w' := by
  have hmf : ∀ (fn : Fn) (first cap : Array Value) (w : World), (Instr.makeFunc fn first cap).run Tryz.prog w = .ok (.func fn first cap) w := fun _ _ _ _ => rfl
  have HK : Hid (KL w (fun b => b < w.heap.size) ks a) := by
    rcases hK with h | ⟨b, o, h1, h2⟩
    · exact .inl h
    · exact .inr ⟨b, o, h1, fun j hj => (h2 j hj).mono fun b hb _ => hb⟩
  have HI := Lib.hid hi
  have HF := Lib.hid hF
  have HBK := Lib.hid ihb
  clear hi hF ihb hK
  obtain ⟨W2, hW2⟩ : ∃ W2, (w.alloc (.cells #[.func (.func F) #[] #[]] 43)).alloc (.cells #[.int .i64 0] 3) = W2 := ⟨_, rfl⟩
  have hb2 : Below w.heap.size w W2 := by rw [← hW2]; exact ((Below.refl _ w).alloc (Nat.le_refl _) _).alloc (by simp) _
  have hc2 : Cap F (w.heap.size + 1) w.heap.size 0 W2 := by
    rw [← hW2]
    refine ⟨?_, ?_⟩
    · have := heap_alloc_new (w.alloc (.cells #[.func (.func F) #[] #[]] 43)) (.cells #[.int .i64 0] 3)
      simpa using this
    · rw [Lib.alloc_old _ _ _ (by simp)]; exact heap_alloc_new w _
  have HALL := Lib.hid (all_gen ks a cc 144 #[.pointer (some ⟨w.heap.size + 1, 0, none⟩), .pointer (some ⟨w.heap.size, 0, none⟩)] enters_clause w.heap.size (fun b => b < w.heap.size) W2 (fun j => clauseB P is (defs (ks.take j)) (ks.getD j tr0)) (fun j W => Cap F (w.heap.size + 1) w.heap.size (defs (ks.take j)) W) (fun _ => True) hlen (HK.out.kept hb2) (fun b h => h) (by show Cap _ _ _ _ _; simpa [defs] using hc2)
    (by
      intro j hj W hI hbW b o hA
      refine (clause_any P is (ks.getD j tr0) (HF.out j hj) (HBK.out j hj) hf (HI.out j hj) (Nat.le_trans (defs_le _) (by simp; omega)) b o hI (Nat.le_succ _) (Nat.le_refl _) hA).mono ?_
      rintro e w' ⟨he, h1, h2⟩
      exact ⟨he, fun hp => by rw [defs_snoc ks j hj]; exact h1 hp, fun _ => trivial, h2⟩))
  have HB2 := Lib.hid hb2
  have HW2 := Lib.hid hW2
  clear hb2 hc2 hW2
  go_enter Tryz.func106, Tryz.ntmps106
  go_wp2_with fail
  rw [HW2.out]
  refine HALL.out.mono ?_
  rintro e w1 ⟨hb1, ⟨rfl, hp, _⟩ | ⟨rfl, ⟨j, hj, hp⟩, _⟩⟩
  · have HR : Hid (clausesB P is ks = true) := (clausesB_iff P is ks).2 hp
    have HB1 := Lib.hid (HB2.out.trans hb1)
    clear hp hb1
    go_wp2
    go_ret
    exact ⟨by rw [HR.out]; rfl, HB1.out⟩
  · have HR : Hid (clausesB P is ks = false) := by
      show clausesB P is ks = false
      rw [← Bool.not_eq_true, clausesB_iff]
      intro h; rw [h j hj] at hp; cases hp
    have HB1 := Lib.hid (HB2.out.trans hb1)
    clear hp hb1
    go_wp2
    go_ret
    exact ⟨by rw [HR.out]; rfl, HB1.out⟩
end Go.Proofs.YtgodeffkboihlaaGreatDoor.Tqd
