/- tree.has; tree.all with any function value. -/
import Derived.Test.YtgodeffkboihlaaGreatDoorTsb
import Derived.Test.YtgodeffkboihlaaGreatDoorStk
set_option linter.unusedVariables false
namespace Go.Proofs.YtgodeffkboihlaaGreatDoor.Tha
open Go.RowKit Tra Trb Trf Trd Tcn Trh

/-- Has a node no field that its shape has not? -/
def hasB (tx ty nm : Bool) (d : Nd) : Bool := (tx || d.text.toList.isEmpty) && (ty || marks d.k || d.ty.toList.isEmpty) && (nm || d.n == 0)
set_option maxHeartbeats 4000000 in
set_option maxRecDepth 100000 in
theorem has_0 (d : Nd) (b o : Nat) (w : World) (c0 : w.cell? ⟨b, o, none⟩ = some (.int .i64 d.k)) (c1 : w.cell? ⟨b, o + 1, none⟩ = some (.string d.text)) (c2 : w.cell? ⟨b, o + 2, none⟩ = some (.int .i64 d.n)) (c3 : w.cell? ⟨b, o + 3, none⟩ = some (.string d.ty)) :
    Calls Tryz.prog 24 #[.pointer (some ⟨b, o, none⟩), .int .i64 0] w fun e w' => e = .returned (.bool (hasB false false false d)) ∧ w = w' := by
  obtain ⟨r, hr⟩ : ∃ r, hasB false false false d = r := ⟨_, rfl⟩
  rw [hr]
  unfold hasB at hr
  have hm := fun W => marks_any d.k W
  obtain ⟨k, tt, n, yy, s4, s5, s6⟩ := d
  simp only at hm hr c0 c1 c2 c3
  cases e1 : tt.toList.isEmpty
  · rw [e1] at hr
    simp at hr
    clear hm
    subst hr
    go_enter Tryz.func24, Tryz.ntmps24
    go_wp2
    go_ret
    exact ⟨rfl, rfl⟩
  · rw [e1] at hr
    cases e2 : marks k
    · rw [e2] at hr hm
      have HM := Lib.hid hm
      clear hm e2
      cases e3 : yy.toList.isEmpty
      · rw [e3] at hr
        simp at hr
        subst hr
        go_enter Tryz.func24, Tryz.ntmps24
        go_wp2_with (go_at_call 33; refine (HM.out _).mono ?_; rintro e w1 ⟨rfl, rfl⟩)
        go_ret
        exact ⟨rfl, rfl⟩
      · rw [e3] at hr
        cases e4 : n == 0
        · rw [e4] at hr
          simp at hr
          subst hr
          go_enter Tryz.func24, Tryz.ntmps24
          go_wp2_with (go_at_call 33; refine (HM.out _).mono ?_; rintro e w1 ⟨rfl, rfl⟩)
          go_ret
          exact ⟨rfl, rfl⟩
        · rw [e4] at hr
          simp at hr
          subst hr
          go_enter Tryz.func24, Tryz.ntmps24
          go_wp2_with (go_at_call 33; refine (HM.out _).mono ?_; rintro e w1 ⟨rfl, rfl⟩)
          go_ret
          exact ⟨rfl, rfl⟩
    · rw [e2] at hr hm
      have HM := Lib.hid hm
      clear hm e2
      cases e4 : n == 0
      · rw [e4] at hr
        simp at hr
        subst hr
        go_enter Tryz.func24, Tryz.ntmps24
        go_wp2_with (go_at_call 33; refine (HM.out _).mono ?_; rintro e w1 ⟨rfl, rfl⟩)
        go_ret
        exact ⟨rfl, rfl⟩
      · rw [e4] at hr
        simp at hr
        subst hr
        go_enter Tryz.func24, Tryz.ntmps24
        go_wp2_with (go_at_call 33; refine (HM.out _).mono ?_; rintro e w1 ⟨rfl, rfl⟩)
        go_ret
        exact ⟨rfl, rfl⟩
set_option maxHeartbeats 4000000 in
set_option maxRecDepth 100000 in
theorem has_1 (d : Nd) (b o : Nat) (w : World) (c0 : w.cell? ⟨b, o, none⟩ = some (.int .i64 d.k)) (c1 : w.cell? ⟨b, o + 1, none⟩ = some (.string d.text)) (c2 : w.cell? ⟨b, o + 2, none⟩ = some (.int .i64 d.n)) (c3 : w.cell? ⟨b, o + 3, none⟩ = some (.string d.ty)) :
    Calls Tryz.prog 24 #[.pointer (some ⟨b, o, none⟩), .int .i64 1] w fun e w' => e = .returned (.bool (hasB true false false d)) ∧ w = w' := by
  obtain ⟨r, hr⟩ : ∃ r, hasB true false false d = r := ⟨_, rfl⟩
  rw [hr]
  unfold hasB at hr
  have hm := fun W => marks_any d.k W
  obtain ⟨k, tt, n, yy, s4, s5, s6⟩ := d
  simp only at hm hr c0 c1 c2 c3
  cases e2 : marks k
  · rw [e2] at hr hm
    have HM := Lib.hid hm
    clear hm e2
    cases e3 : yy.toList.isEmpty
    · rw [e3] at hr
      simp at hr
      subst hr
      go_enter Tryz.func24, Tryz.ntmps24
      go_wp2_with (go_at_call 33; refine (HM.out _).mono ?_; rintro e w1 ⟨rfl, rfl⟩)
      go_ret
      exact ⟨rfl, rfl⟩
    · rw [e3] at hr
      cases e4 : n == 0
      · rw [e4] at hr
        simp at hr
        subst hr
        go_enter Tryz.func24, Tryz.ntmps24
        go_wp2_with (go_at_call 33; refine (HM.out _).mono ?_; rintro e w1 ⟨rfl, rfl⟩)
        go_ret
        exact ⟨rfl, rfl⟩
      · rw [e4] at hr
        simp at hr
        subst hr
        go_enter Tryz.func24, Tryz.ntmps24
        go_wp2_with (go_at_call 33; refine (HM.out _).mono ?_; rintro e w1 ⟨rfl, rfl⟩)
        go_ret
        exact ⟨rfl, rfl⟩
  · rw [e2] at hr hm
    have HM := Lib.hid hm
    clear hm e2
    cases e4 : n == 0
    · rw [e4] at hr
      simp at hr
      subst hr
      go_enter Tryz.func24, Tryz.ntmps24
      go_wp2_with (go_at_call 33; refine (HM.out _).mono ?_; rintro e w1 ⟨rfl, rfl⟩)
      go_ret
      exact ⟨rfl, rfl⟩
    · rw [e4] at hr
      simp at hr
      subst hr
      go_enter Tryz.func24, Tryz.ntmps24
      go_wp2_with (go_at_call 33; refine (HM.out _).mono ?_; rintro e w1 ⟨rfl, rfl⟩)
      go_ret
      exact ⟨rfl, rfl⟩
set_option maxHeartbeats 4000000 in
set_option maxRecDepth 100000 in
theorem has_2 (d : Nd) (b o : Nat) (w : World) (c0 : w.cell? ⟨b, o, none⟩ = some (.int .i64 d.k)) (c1 : w.cell? ⟨b, o + 1, none⟩ = some (.string d.text)) (c2 : w.cell? ⟨b, o + 2, none⟩ = some (.int .i64 d.n)) (c3 : w.cell? ⟨b, o + 3, none⟩ = some (.string d.ty)) :
    Calls Tryz.prog 24 #[.pointer (some ⟨b, o, none⟩), .int .i64 2] w fun e w' => e = .returned (.bool (hasB false true false d)) ∧ w = w' := by
  obtain ⟨r, hr⟩ : ∃ r, hasB false true false d = r := ⟨_, rfl⟩
  rw [hr]
  unfold hasB at hr
  have hm := fun W => marks_any d.k W
  obtain ⟨k, tt, n, yy, s4, s5, s6⟩ := d
  simp only at hm hr c0 c1 c2 c3
  clear hm
  cases e1 : tt.toList.isEmpty
  · rw [e1] at hr
    simp at hr
    subst hr
    go_enter Tryz.func24, Tryz.ntmps24
    go_wp2
    go_ret
    exact ⟨rfl, rfl⟩
  · rw [e1] at hr
    cases e4 : n == 0
    · rw [e4] at hr
      simp at hr
      subst hr
      go_enter Tryz.func24, Tryz.ntmps24
      go_wp2
      go_ret
      exact ⟨rfl, rfl⟩
    · rw [e4] at hr
      simp at hr
      subst hr
      go_enter Tryz.func24, Tryz.ntmps24
      go_wp2
      go_ret
      exact ⟨rfl, rfl⟩
set_option maxHeartbeats 4000000 in
set_option maxRecDepth 100000 in
theorem has_4 (d : Nd) (b o : Nat) (w : World) (c0 : w.cell? ⟨b, o, none⟩ = some (.int .i64 d.k)) (c1 : w.cell? ⟨b, o + 1, none⟩ = some (.string d.text)) (c2 : w.cell? ⟨b, o + 2, none⟩ = some (.int .i64 d.n)) (c3 : w.cell? ⟨b, o + 3, none⟩ = some (.string d.ty)) :
    Calls Tryz.prog 24 #[.pointer (some ⟨b, o, none⟩), .int .i64 4] w fun e w' => e = .returned (.bool (hasB false false true d)) ∧ w = w' := by
  obtain ⟨r, hr⟩ : ∃ r, hasB false false true d = r := ⟨_, rfl⟩
  rw [hr]
  unfold hasB at hr
  have hm := fun W => marks_any d.k W
  obtain ⟨k, tt, n, yy, s4, s5, s6⟩ := d
  simp only at hm hr c0 c1 c2 c3
  cases e1 : tt.toList.isEmpty
  · rw [e1] at hr
    simp at hr
    clear hm
    subst hr
    go_enter Tryz.func24, Tryz.ntmps24
    go_wp2
    go_ret
    exact ⟨rfl, rfl⟩
  · rw [e1] at hr
    cases e2 : marks k
    · rw [e2] at hr hm
      have HM := Lib.hid hm
      clear hm e2
      cases e3 : yy.toList.isEmpty
      · rw [e3] at hr
        simp at hr
        subst hr
        go_enter Tryz.func24, Tryz.ntmps24
        go_wp2_with (go_at_call 33; refine (HM.out _).mono ?_; rintro e w1 ⟨rfl, rfl⟩)
        go_ret
        exact ⟨rfl, rfl⟩
      · rw [e3] at hr
        simp at hr
        subst hr
        go_enter Tryz.func24, Tryz.ntmps24
        go_wp2_with (go_at_call 33; refine (HM.out _).mono ?_; rintro e w1 ⟨rfl, rfl⟩)
        go_ret
        exact ⟨rfl, rfl⟩
    · rw [e2] at hr hm
      have HM := Lib.hid hm
      clear hm e2
      simp at hr
      subst hr
      go_enter Tryz.func24, Tryz.ntmps24
      go_wp2_with (go_at_call 33; refine (HM.out _).mono ?_; rintro e w1 ⟨rfl, rfl⟩)
      go_ret
      exact ⟨rfl, rfl⟩
set_option maxHeartbeats 4000000 in
set_option maxRecDepth 100000 in
theorem has_3 (d : Nd) (b o : Nat) (w : World) (c0 : w.cell? ⟨b, o, none⟩ = some (.int .i64 d.k)) (c1 : w.cell? ⟨b, o + 1, none⟩ = some (.string d.text)) (c2 : w.cell? ⟨b, o + 2, none⟩ = some (.int .i64 d.n)) (c3 : w.cell? ⟨b, o + 3, none⟩ = some (.string d.ty)) :
    Calls Tryz.prog 24 #[.pointer (some ⟨b, o, none⟩), .int .i64 3] w fun e w' => e = .returned (.bool (hasB true true false d)) ∧ w = w' := by
  obtain ⟨r, hr⟩ : ∃ r, hasB true true false d = r := ⟨_, rfl⟩
  rw [hr]
  unfold hasB at hr
  have hm := fun W => marks_any d.k W
  obtain ⟨k, tt, n, yy, s4, s5, s6⟩ := d
  simp only at hm hr c0 c1 c2 c3
  clear hm
  cases e4 : n == 0
  · rw [e4] at hr
    simp at hr
    subst hr
    go_enter Tryz.func24, Tryz.ntmps24
    go_wp2
    go_ret
    exact ⟨rfl, rfl⟩
  · rw [e4] at hr
    simp at hr
    subst hr
    go_enter Tryz.func24, Tryz.ntmps24
    go_wp2
    go_ret
    exact ⟨rfl, rfl⟩
set_option maxHeartbeats 4000000 in
set_option maxRecDepth 100000 in
theorem has_5 (d : Nd) (b o : Nat) (w : World) (c0 : w.cell? ⟨b, o, none⟩ = some (.int .i64 d.k)) (c1 : w.cell? ⟨b, o + 1, none⟩ = some (.string d.text)) (c2 : w.cell? ⟨b, o + 2, none⟩ = some (.int .i64 d.n)) (c3 : w.cell? ⟨b, o + 3, none⟩ = some (.string d.ty)) :
    Calls Tryz.prog 24 #[.pointer (some ⟨b, o, none⟩), .int .i64 5] w fun e w' => e = .returned (.bool (hasB true false true d)) ∧ w = w' := by
  obtain ⟨r, hr⟩ : ∃ r, hasB true false true d = r := ⟨_, rfl⟩
  rw [hr]
  unfold hasB at hr
  have hm := fun W => marks_any d.k W
  obtain ⟨k, tt, n, yy, s4, s5, s6⟩ := d
  simp only at hm hr c0 c1 c2 c3
  cases e2 : marks k
  · rw [e2] at hr hm
    have HM := Lib.hid hm
    clear hm e2
    cases e3 : yy.toList.isEmpty
    · rw [e3] at hr
      simp at hr
      subst hr
      go_enter Tryz.func24, Tryz.ntmps24
      go_wp2_with (go_at_call 33; refine (HM.out _).mono ?_; rintro e w1 ⟨rfl, rfl⟩)
      go_ret
      exact ⟨rfl, rfl⟩
    · rw [e3] at hr
      simp at hr
      subst hr
      go_enter Tryz.func24, Tryz.ntmps24
      go_wp2_with (go_at_call 33; refine (HM.out _).mono ?_; rintro e w1 ⟨rfl, rfl⟩)
      go_ret
      exact ⟨rfl, rfl⟩
  · rw [e2] at hr hm
    have HM := Lib.hid hm
    clear hm e2
    simp at hr
    subst hr
    go_enter Tryz.func24, Tryz.ntmps24
    go_wp2_with (go_at_call 33; refine (HM.out _).mono ?_; rintro e w1 ⟨rfl, rfl⟩)
    go_ret
    exact ⟨rfl, rfl⟩
/-- A list of kids handed to `all`, with a state: I holds ahead of each kid; F where a kid is refused. -/
theorem at_below {w W : World} {S : Nat → Prop} {B : Nat} {t : Tr} {b o : Nat} (h : At w S t b o) (hS : ∀ b, S b → b < B) (hb : Below B w W) : At W S t b o := by
  obtain ⟨h1, h2, a, c, h3, h4⟩ := h
  exact ⟨h1, Nat.lt_of_lt_of_le h2 hb.size, a, c, fun i hi => (World.cell?_of_block (a := ⟨b, _, none⟩) (hb.block b (hS b h1))).trans (h3 i hi), h4.on hb.size fun b _ hb' => hb.block b (hS b hb')⟩
set_option maxHeartbeats 4000000 in
set_option maxRecDepth 100000 in
theorem all_gen (ks : List Tr) (a : Option Addr) (c : Nat) (f : FuncId) (cap : Array Value) (hf : Enters Tryz.prog f) (B : Nat) (S : Nat → Prop) (w : World) (p : Nat → Bool) (I : Nat → World → Prop) (F : World → Prop) (hlen : ks.length ≤ 1048576) (hK : Hid (KL w S ks a)) (hS : Hid (∀ b, S b → b < B)) (h0 : Hid (I 0 w))
    (h : Hid (∀ j, j < ks.length → ∀ W, I j W → Below B w W → ∀ b o, At W S (ks.getD j tr0) b o → Calls Tryz.prog f (#[.pointer (some ⟨b, o, none⟩)] ++ cap) W fun e w' => e = .returned (.bool (p j)) ∧ (p j = true → I (j + 1) w') ∧ (p j = false → F w') ∧ Below B W w')) :
    Calls Tryz.prog 25 #[.slice a ks.length c, .func (.func f) #[] cap] w fun e w' => Below B w w' ∧ ((e = .returned (.bool true) ∧ (∀ j, j < ks.length → p j = true) ∧ I ks.length w') ∨ (e = .returned (.bool false) ∧ (∃ j, j < ks.length ∧ p j = false) ∧ F w')) := by
  go_enter Tryz.func25, Tryz.ntmps25
  go_wp2
  go_loopw [5, 8] (fun _ i wr => ∃ k : Nat, k ≤ ks.length ∧ i = .int .i64 k ∧ Hid (Below B w wr) ∧ Hid (I k wr) ∧ Hid (∀ j, j < k → p j = true)) (fun _ i _ => ks.length - (intOf i).toNat)
  case atStart => exact ⟨0, Nat.zero_le _, rfl, Below.refl _ _, h0.out, fun j hj => absurd hj (by omega)⟩
  case round =>
    obtain ⟨k, hk, rfl, hbw, hi, hp⟩ := hrel
    by_cases hlt : k < ks.length
    · obtain ⟨b, o, rfl, hA⟩ := hK.out.get hlt
      have HC := Lib.hid (h.out k hlt wr hi.out hbw.out b (o + k * 8) (at_below hA hS.out hbw.out))
      clear hA
      have he : ∀ (args : Array Value) (w : World), (callFunc f args).run Tryz.prog w = .ok (.enter f args) w := hf
      cases hpk : p k with
      | true =>
        rw [hpk] at HC
        have HPK := Lib.hid hpk
        clear hpk
        go_wp2_with fail
        refine HC.out.mono ?_
        rintro e w1 ⟨rfl, h1, _, hb1⟩
        have H1 := Lib.hid (h1 (by simp))
        have HB1 := Lib.hid (hbw.out.trans hb1)
        clear h1 hb1 HC
        go_wp2
        go_roundw
        case rel => exact ⟨k + 1, by omega, by go_num, HB1.out, H1.out, fun j hj => by
          by_cases e : j = k
          · rw [e]; exact HPK.out
          · exact hp.out j (by omega)⟩
        case measure => simp [intOf]; omega
      | false =>
        rw [hpk] at HC
        have HPK := Lib.hid hpk
        clear hpk
        go_wp2_with fail
        refine HC.out.mono ?_
        rintro e w1 ⟨rfl, _, h1, hb1⟩
        have H1 := Lib.hid (h1 (by simp))
        have HB1 := Lib.hid (hbw.out.trans hb1)
        clear h1 hb1 HC
        go_wp2
        go_ret
        exact ⟨HB1.out, .inr ⟨rfl, ⟨k, hlt, HPK.out⟩, H1.out⟩⟩
    · obtain rfl : k = ks.length := by omega
      go_wp2
      go_ret
      exact ⟨hbw.out, .inl ⟨rfl, hp.out, hi.out⟩⟩
/-- `all` with a function that only looks. -/
theorem all_any (ks : List Tr) (a : Option Addr) (c : Nat) (f : FuncId) (cap : Array Value) (hf : Enters Tryz.prog f) (S : Nat → Prop) (w : World) (p : Tr → Bool) (hlen : ks.length ≤ 1048576) (hK : KL w S ks a)
    (h : ∀ j, j < ks.length → ∀ W, Below w.heap.size w W → ∀ b o, At W (fun b => b < w.heap.size) (ks.getD j tr0) b o → Calls Tryz.prog f (#[.pointer (some ⟨b, o, none⟩)] ++ cap) W fun e w' => e = .returned (.bool (p (ks.getD j tr0))) ∧ Below W.heap.size W w') :
    Calls Tryz.prog 25 #[.slice a ks.length c, .func (.func f) #[] cap] w fun e w' => e = .returned (.bool (ks.all p)) ∧ Below w.heap.size w w' := by
  have hK' : KL w (fun b => b < w.heap.size) ks a := by
    rcases hK with h | ⟨b, o, h1, h2⟩
    · exact .inl h
    · exact .inr ⟨b, o, h1, fun j hj => (h2 j hj).mono fun b hb _ => hb⟩
  refine (all_gen ks a c f cap hf w.heap.size (fun b => b < w.heap.size) w (fun j => p (ks.getD j tr0)) (fun _ W => Below w.heap.size w W) (fun W => Below w.heap.size w W) hlen hK' (fun b h => h) (Below.refl _ _) ?_).mono ?_
  · intro j hj W hI hb b o hA
    refine (h j hj W hb b o hA).mono ?_
    rintro e w' ⟨he, hb'⟩
    have h2 := hb.trans (hb'.mono hb.size)
    exact ⟨he, fun _ => h2, fun _ => h2, hb'.mono hb.size⟩
  · rintro e w' ⟨hb, ⟨he, hp, hI⟩ | ⟨he, ⟨j, hj, hp⟩, hF⟩⟩
    · refine ⟨?_, hb⟩
      rw [he]
      have : ks.all p = true := by
        rw [List.all_eq_true]
        intro x hx
        obtain ⟨j, hj, rfl⟩ := List.getElem_of_mem hx
        have := hp j hj
        simpa [List.getD_eq_getElem?_getD, hj] using this
      rw [this]
    · refine ⟨?_, hb⟩
      rw [he]
      have : ks.all p = false := by
        rw [List.all_eq_false]
        refine ⟨ks.getD j tr0, ?_, by rw [hp]; simp⟩
        simp only [List.getD_eq_getElem?_getD, List.getElem?_eq_getElem hj, Option.getD_some]
        exact List.getElem_mem hj
      rw [this]
end Go.Proofs.YtgodeffkboihlaaGreatDoor.Tha
