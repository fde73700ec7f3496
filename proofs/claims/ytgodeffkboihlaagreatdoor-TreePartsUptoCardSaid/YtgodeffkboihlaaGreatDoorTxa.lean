/- A node behind a pointer, with its kids; proper, Receive, Binds. -/
import Derived.Test.YtgodeffkboihlaaGreatDoorTha
import Derived.Test.YtgodeffkboihlaaGreatDoorM2
set_option linter.unusedVariables false
namespace Go.Proofs.YtgodeffkboihlaaGreatDoor.Txa
open Go.RowKit Tra Trb Trf Trd Tcn Trh Tha Nam

/-- A node whose cells stand at ⟨b, o⟩, in a world that came of w0. -/
structure Nod (w0 w : World) (b o : Nat) (d : Nd) (ks : List Tr) (a : Option Addr) (c : Nat) : Prop where
  below : Below w0.heap.size w0 w
  lt : b < w.heap.size
  cells : w.cell? ⟨b, o, none⟩ = some (.int .i64 d.k) ∧ w.cell? ⟨b, o + 1, none⟩ = some (.string d.text) ∧ w.cell? ⟨b, o + 2, none⟩ = some (.int .i64 d.n) ∧ w.cell? ⟨b, o + 3, none⟩ = some (.string d.ty) ∧
    w.cell? ⟨b, o + 4, none⟩ = some (.int .i64 d.slot) ∧ w.cell? ⟨b, o + 5, none⟩ = some (.int .i64 d.at_) ∧ w.cell? ⟨b, o + 6, none⟩ = some (.int .i64 d.line) ∧ w.cell? ⟨b, o + 7, none⟩ = some (.slice a ks.length c)
  kl : KL w (fun _ => True) ks a
  cap : ks.length ≤ c
variable {w0 w w' : World} {S : Nat → Prop} {b o c : Nat} {d : Nd} {ks : List Tr} {a : Option Addr} {t : Tr}
theorem Nod.start (h : At w S (.mk d ks) b o) : ∃ a c, Nod w w b o d ks a c := by
  have hl := h.2.1
  obtain ⟨a, c, h1, h2⟩ := h.cells
  obtain ⟨a', c', e, hk⟩ := kids_lie h1
  have e1 : a = a' := by
    simp only [Value.agg.injEq] at e
    have := congrArg Array.toList e
    simp only [List.cons.injEq, Value.slice.injEq] at this
    exact this.2.2.2.2.2.2.2.1.1
  subst e1
  refine ⟨a, c, Below.refl _ _, hl, h2, ?_, kids_cap h1⟩
  rcases hk with h | ⟨b', o', h3, h4⟩
  · exact .inl h
  · exact .inr ⟨b', o', h3, fun j hj => (h4 j hj).mono fun _ _ _ => trivial⟩
theorem Nod.kept (h : Nod w0 w b o d ks a c) (hb : Below w.heap.size w w') : Nod w0 w' b o d ks a c := by
  have hc := fun i => hb.cell (p := ⟨b, i, none⟩) h.lt
  refine ⟨h.below.trans (hb.mono h.below.size), Nat.lt_of_lt_of_le h.lt hb.size, ?_, h.kl.kept hb, h.cap⟩
  obtain ⟨c0, c1, c2, c3, c4, c5, c6, c7⟩ := h.cells
  exact ⟨(hc _).trans c0, (hc _).trans c1, (hc _).trans c2, (hc _).trans c3, (hc _).trans c4, (hc _).trans c5, (hc _).trans c6, (hc _).trans c7⟩
theorem kl_at {b' o' : Nat} (h : KL w S ks (some ⟨b', o', none⟩)) {j : Nat} (hj : j < ks.length) : At w S (ks.getD j tr0) b' (o' + j * 8) := by
  obtain ⟨b2, o2, e, h2⟩ := h.get hj
  simp only [Option.some.injEq, Addr.mk.injEq, and_true] at e
  obtain ⟨rfl, rfl⟩ := e
  exact h2
theorem kl_some (h : KL w S ks a) (hk : 0 < ks.length) : ∃ b' o', a = some ⟨b', o', none⟩ := by
  obtain ⟨b', o', e, _⟩ := h.get hk
  exact ⟨b', o', e⟩
/-- What a function that looks at a node pays. -/
def Pays (F : FuncId) (p : Tr → Bool) (t : Tr) : Prop := ∀ (S : Nat → Prop) (b o : Nat) (w : World), At w S t b o →
  Calls Tryz.prog F #[.pointer (some ⟨b, o, none⟩)] w fun e w' => e = .returned (.bool (p t)) ∧ Below w.heap.size w w'
theorem all_of {F : FuncId} (hf : Enters Tryz.prog F) {p : Tr → Bool} (a : Option Addr) (c : Nat) (hlen : ks.length ≤ 1048576) (h : ∀ j, j < ks.length → Pays F p (ks.getD j tr0)) (w : World) (hK : KL w S ks a) :
    Calls Tryz.prog 25 #[.slice a ks.length c, .func (.func F) #[] #[]] w fun e w' => e = .returned (.bool (ks.all p)) ∧ Below w.heap.size w w' :=
  all_any ks a c F #[] hf S w p hlen hK fun j hj W hW b o hA => h j hj _ b o W hA
/-- The same over the first n kids. -/
theorem all_take {F : FuncId} (hf : Enters Tryz.prog F) {p : Tr → Bool} (a : Option Addr) (c n : Nat) (hn : n ≤ ks.length) (hlen : ks.length ≤ 1048576) (h : ∀ j, j < n → Pays F p (ks.getD j tr0)) (w : World) (hK : KL w S ks a) :
    Calls Tryz.prog 25 #[.slice a n c, .func (.func F) #[] #[]] w fun e w' => e = .returned (.bool ((ks.take n).all p)) ∧ Below w.heap.size w w' := by
  have hl : (ks.take n).length = n := by simp [hn]
  have := all_of (ks := ks.take n) hf a c (by omega) (p := p) (fun j hj => by
    have hj' : j < n := by omega
    have e : (ks.take n).getD j tr0 = ks.getD j tr0 := by simp [List.getD_eq_getElem?_getD, hj']
    rw [e]; exact h j hj') w (hK.take n)
  rw [hl] at this; exact this
def properB (s : ByteArray) : Bool := !(s.toList == [95]) && isName s
set_option maxHeartbeats 1000000 in
set_option maxRecDepth 100000 in
theorem proper_any (s : ByteArray) (w : World) (hs : s.size ≤ 1048576) : Calls Tryz.prog 36 #[.string s] w fun e w' => e = .returned (.bool (properB s)) ∧ Below w.heap.size w w' := by
  have hn := fun w => name_any s w (by omega)
  unfold properB
  cases h1 : (s.toList == [95])
  · cases h2 : isName s
    all_goals
      rw [h2] at hn
      have HN := Lib.hid hn
      clear hn h2
      go_enter Tryz.func36, Tryz.ntmps36
      go_wp2_with fail
      refine (HN.out _).mono ?_
      rintro e w' ⟨rfl, hb⟩
      go_wp2
      go_ret
      exact ⟨rfl, hb⟩
  · clear hn
    go_enter Tryz.func36, Tryz.ntmps36
    go_wp2
    go_ret
    exact ⟨rfl, Below.refl _ _⟩
/-- Is a node a receive? -/
def recvB (d : Nd) : Bool := d.k == 26 && d.text.toList == [60, 45]
set_option maxHeartbeats 1000000 in
set_option maxRecDepth 100000 in
theorem receive_any (d : Nd) (b o : Nat) (w : World) (c0 : w.cell? ⟨b, o, none⟩ = some (.int .i64 d.k)) (c1 : w.cell? ⟨b, o + 1, none⟩ = some (.string d.text)) :
    Calls Tryz.prog 110 #[.pointer (some ⟨b, o, none⟩)] w fun e w' => e = .returned (.bool (recvB d)) ∧ w = w' := by
  unfold recvB
  cases h1 : (d.k == 26) <;> cases h2 : (d.text.toList == [60, 45])
  all_goals
    go_enter Tryz.func110, Tryz.ntmps110
    go_wp2
    go_ret
    exact ⟨rfl, rfl⟩
/-- How tight a sign binds. -/
def bindsN (s : ByteArray) : Int :=
  if s.toList == [124, 124] then 1 else if s.toList == [38, 38] then 2
  else if s.toList == [61, 61] || s.toList == [33, 61] || s.toList == [60] || s.toList == [60, 61] || s.toList == [62] || s.toList == [62, 61] then 3
  else if s.toList == [43] || s.toList == [45] then 4 else if s.toList == [42] || s.toList == [47] || s.toList == [37] then 5 else 0
set_option maxHeartbeats 4000000 in
set_option maxRecDepth 100000 in
theorem binds_any (s : ByteArray) (w : World) : Calls Tryz.prog 102 #[.string s] w fun e w' => e = .returned (.int .i64 (bindsN s)) ∧ w = w' := by
  obtain ⟨n, hn⟩ : ∃ n, bindsN s = n := ⟨_, rfl⟩
  rw [hn]
  unfold bindsN at hn
  cases e0 : (s.toList == [124, 124])
  rotate_left
  · simp [e0] at hn
    subst hn
    go_enter Tryz.func102, Tryz.ntmps102
    go_wp2
    go_ret
    exact ⟨rfl, rfl⟩
  cases e1 : (s.toList == [38, 38])
  rotate_left
  · simp [e0, e1] at hn
    subst hn
    go_enter Tryz.func102, Tryz.ntmps102
    go_wp2
    go_ret
    exact ⟨rfl, rfl⟩
  cases e2 : (s.toList == [61, 61])
  rotate_left
  · simp [e0, e1, e2] at hn
    subst hn
    go_enter Tryz.func102, Tryz.ntmps102
    go_wp2
    go_ret
    exact ⟨rfl, rfl⟩
  cases e3 : (s.toList == [33, 61])
  rotate_left
  · simp [e0, e1, e2, e3] at hn
    subst hn
    go_enter Tryz.func102, Tryz.ntmps102
    go_wp2
    go_ret
    exact ⟨rfl, rfl⟩
  cases e4 : (s.toList == [60])
  rotate_left
  · simp [e0, e1, e2, e3, e4] at hn
    subst hn
    go_enter Tryz.func102, Tryz.ntmps102
    go_wp2
    go_ret
    exact ⟨rfl, rfl⟩
  cases e5 : (s.toList == [60, 61])
  rotate_left
  · simp [e0, e1, e2, e3, e4, e5] at hn
    subst hn
    go_enter Tryz.func102, Tryz.ntmps102
    go_wp2
    go_ret
    exact ⟨rfl, rfl⟩
  cases e6 : (s.toList == [62])
  rotate_left
  · simp [e0, e1, e2, e3, e4, e5, e6] at hn
    subst hn
    go_enter Tryz.func102, Tryz.ntmps102
    go_wp2
    go_ret
    exact ⟨rfl, rfl⟩
  cases e7 : (s.toList == [62, 61])
  rotate_left
  · simp [e0, e1, e2, e3, e4, e5, e6, e7] at hn
    subst hn
    go_enter Tryz.func102, Tryz.ntmps102
    go_wp2
    go_ret
    exact ⟨rfl, rfl⟩
  cases e8 : (s.toList == [43])
  rotate_left
  · simp [e0, e1, e2, e3, e4, e5, e6, e7, e8] at hn
    subst hn
    go_enter Tryz.func102, Tryz.ntmps102
    go_wp2
    go_ret
    exact ⟨rfl, rfl⟩
  cases e9 : (s.toList == [45])
  rotate_left
  · simp [e0, e1, e2, e3, e4, e5, e6, e7, e8, e9] at hn
    subst hn
    go_enter Tryz.func102, Tryz.ntmps102
    go_wp2
    go_ret
    exact ⟨rfl, rfl⟩
  cases e10 : (s.toList == [42])
  rotate_left
  · simp [e0, e1, e2, e3, e4, e5, e6, e7, e8, e9, e10] at hn
    subst hn
    go_enter Tryz.func102, Tryz.ntmps102
    go_wp2
    go_ret
    exact ⟨rfl, rfl⟩
  cases e11 : (s.toList == [47])
  rotate_left
  · simp [e0, e1, e2, e3, e4, e5, e6, e7, e8, e9, e10, e11] at hn
    subst hn
    go_enter Tryz.func102, Tryz.ntmps102
    go_wp2
    go_ret
    exact ⟨rfl, rfl⟩
  cases e12 : (s.toList == [37])
  rotate_left
  · simp [e0, e1, e2, e3, e4, e5, e6, e7, e8, e9, e10, e11, e12] at hn
    subst hn
    go_enter Tryz.func102, Tryz.ntmps102
    go_wp2
    go_ret
    exact ⟨rfl, rfl⟩
  simp [e0, e1, e2, e3, e4, e5, e6, e7, e8, e9, e10, e11, e12] at hn
  subst hn
  go_enter Tryz.func102, Tryz.ntmps102
  go_wp2
  go_ret
  exact ⟨rfl, rfl⟩
end Go.Proofs.YtgodeffkboihlaaGreatDoor.Txa
