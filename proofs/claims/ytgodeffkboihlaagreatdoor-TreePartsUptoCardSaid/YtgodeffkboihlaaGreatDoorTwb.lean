/- tree's writer: what a walk of its methods rests on; add with a few parts, tabs, hold, list. -/
import Derived.Test.YtgodeffkboihlaaGreatDoorTwa
import Derived.Test.YtgodeffkboihlaaGreatDoorTqh
import Derived.Test.YtgodeffkboihlaaGreatDoorM6
import Derived.Defers
set_option linter.unusedVariables false
namespace Go.Proofs.YtgodeffkboihlaaGreatDoor.Twb
open Go.RowKit Tra Trb Trf Trd Tcn Trh Tha Txa Twa

abbrev Bs := List UInt8
/-- No text grows longer. -/
abbrev most : Nat := 70368744177664
/-- A writer, and the powers of ten, which lie below. -/
structure Ws (B p : Nat) (l : Bs) (d : Nat) (w : World) : Prop where
  wr : Wr B p l (d : Int) w
  pow : Lib.TabIs Tryz.prog w "internal/strconv.uint64pow10" .u64 Lib.pow10Tab
  low : 3 < B
variable {B p : Nat} {l x : Bs} {d : Nat} {w w' : World}
theorem Ws.hB (h : Ws B p l d w) : B ≤ w.heap.size := Nat.le_trans h.wr.le (Nat.le_of_lt h.wr.lt)
theorem Ws.hp (h : Ws B p l d w) : p < w.heap.size := h.wr.lt
theorem pow_below (hg : 3 < B) (h : Lib.TabIs Tryz.prog w "internal/strconv.uint64pow10" .u64 Lib.pow10Tab) (hb : Below B w w') : Lib.TabIs Tryz.prog w' "internal/strconv.uint64pow10" .u64 Lib.pow10Tab :=
  Twq.pow_low hg h hb
theorem Ws.kept (h : Ws B p l d w) (hb : Below w.heap.size w w') : Ws B p l d w' := ⟨h.wr.kept hb, pow_below h.low h.pow (hb.mono h.hB), h.low⟩
theorem Ws.of (h : Ws B p l d w) {m : Bs} {d' : Nat} (hw : Wr B p m (d' : Int) w') (hb : Below B w w') : Ws B p m d' w' := ⟨hw, pow_below h.low h.pow hb, h.low⟩
theorem Ws.toPow (h : Ws B p l d w) : Twq.Pow w := ⟨h.pow, Nat.lt_of_lt_of_le h.low h.hB⟩
/-- What a writing call leaves. -/
def Post (B p : Nat) (l x : Bs) (d : Nat) (w : World) (e : Ending) (w' : World) : Prop := e = .returned (.tuple #[]) ∧ Ws B p (l ++ x) d w' ∧ Below B w w' ∧ Keeps p w w'
theorem post_of (h : Ws B p l d w) {e : Ending} (hw : Wrote B p l x (d : Int) w e w') : Post B p l x d w e w' := ⟨hw.1, h.of hw.2.1 hw.2.2.1, hw.2.2.1, hw.2.2.2⟩
/-- A node below B. -/
structure Nb (B : Nat) (w : World) (b o : Nat) (d : Nd) (ks : List Tr) (a : Option Addr) (c : Nat) : Prop where
  lt : b < B
  cells : w.cell? ⟨b, o, none⟩ = some (.int .i64 d.k) ∧ w.cell? ⟨b, o + 1, none⟩ = some (.string d.text) ∧ w.cell? ⟨b, o + 2, none⟩ = some (.int .i64 d.n) ∧ w.cell? ⟨b, o + 3, none⟩ = some (.string d.ty) ∧ w.cell? ⟨b, o + 7, none⟩ = some (.slice a ks.length c)
  kl : KL w (fun b => b < B) ks a
  cap : ks.length ≤ c
theorem At.low {t : Tr} {b o : Nat} (h : At w (fun b => b < B) t b o) (hb : Below B w w') : At w' (fun b => b < B) t b o := at_below h (fun _ h => h) hb
theorem KL.low {ks : List Tr} {a : Option Addr} (h : KL w (fun b => b < B) ks a) (hb : Below B w w') : KL w' (fun b => b < B) ks a := by
  rcases h with h | ⟨b, o, h1, h2⟩
  · exact .inl h
  · exact .inr ⟨b, o, h1, fun j hj => At.low (h2 j hj) hb⟩
theorem Nb.start {dd : Nd} {ks : List Tr} {b o : Nat} (h : At w (fun b => b < B) (.mk dd ks) b o) : ∃ a c, Nb B w b o dd ks a c := by
  have hlt : b < B := h.1
  obtain ⟨a, c, h2⟩ := Nod.start h
  obtain ⟨c0, c1, c2, c3, c4, c5, c6, c7⟩ := h2.cells
  refine ⟨a, c, hlt, ⟨c0, c1, c2, c3, c7⟩, ?_, h2.cap⟩
  obtain ⟨_, _, a', c', hc, hl⟩ := h
  obtain ⟨a2, c2', e, hk⟩ := kids_lie hl
  have e1 : a' = a2 := by
    simp only [Value.agg.injEq] at e
    have := congrArg Array.toList e
    simp only [List.cons.injEq, Value.slice.injEq] at this
    exact this.2.2.2.2.2.2.2.1.1
  have e2 : a = a' := by
    have := (hc 7 (by omega)).symm.trans c7
    simp only [Nd.row, List.getElem?_cons_succ, List.getElem?_cons_zero, Option.some.injEq, Value.slice.injEq] at this
    exact this.1.symm
  rw [e2, e1]; exact hk
theorem Nb.kept {dd : Nd} {ks : List Tr} {b o c : Nat} {a : Option Addr} (h : Nb B w b o dd ks a c) (hb : Below B w w') : Nb B w' b o dd ks a c := by
  have hc := fun i => World.cell?_of_block (a := ⟨b, i, none⟩) (hb.block b h.lt)
  obtain ⟨c0, c1, c2, c3, c7⟩ := h.cells
  exact ⟨h.lt, ⟨(hc _).trans c0, (hc _).trans c1, (hc _).trans c2, (hc _).trans c3, (hc _).trans c7⟩, KL.low h.kl hb, h.cap⟩
/-- What a method that writes a node pays. -/
def Writes (F : FuncId) (x : Bs) (t : Tr) : Prop := ∀ (B p d : Nat) (l : Bs) (w : World) (b o : Nat), Ws B p l d w → At w (fun b => b < B) t b o → l.length + x.length ≤ most →
  Calls Tryz.prog F #[.pointer (some ⟨p, 0, none⟩), .pointer (some ⟨b, o, none⟩)] w (Post B p l x d w)
theorem add1 (s : ByteArray) (hS : Ws B p l d w) (hlen : l.length + s.data.toList.length ≤ most) : Calls Tryz.prog 27 #[.pointer (some ⟨p, 0, none⟩), .slice (some ⟨w.heap.size, 0, none⟩) 1 1] (w.alloc (.cells #[.string s] 9)) (Post B p l s.data.toList d w) := by
  refine (add_new [s] l w hS.wr (by simp [cat] at hlen ⊢; unfold most at hlen; omega) (by simp)).mono ?_
  intro e w' h
  have := post_of hS h
  simpa [cat] using this
theorem add2 (s1 s2 : ByteArray) (hS : Ws B p l d w) (hlen : l.length + (s1.data.toList ++ s2.data.toList).length ≤ most) : Calls Tryz.prog 27 #[.pointer (some ⟨p, 0, none⟩), .slice (some ⟨w.heap.size, 0, none⟩) 2 2] (w.alloc (.cells #[.string s1, .string s2] 9)) (Post B p l (s1.data.toList ++ s2.data.toList) d w) := by
  refine (add_new [s1, s2] l w hS.wr (by simp [cat] at hlen ⊢; unfold most at hlen; omega) (by simp)).mono ?_
  intro e w' h
  have := post_of hS h
  simpa [cat] using this
theorem add3 (s1 s2 s3 : ByteArray) (hS : Ws B p l d w) (hlen : l.length + (s1.data.toList ++ s2.data.toList ++ s3.data.toList).length ≤ most) : Calls Tryz.prog 27 #[.pointer (some ⟨p, 0, none⟩), .slice (some ⟨w.heap.size, 0, none⟩) 3 3] (w.alloc (.cells #[.string s1, .string s2, .string s3] 9)) (Post B p l (s1.data.toList ++ s2.data.toList ++ s3.data.toList) d w) := by
  refine (add_new [s1, s2, s3] l w hS.wr (by simp [cat] at hlen ⊢; unfold most at hlen; omega) (by simp)).mono ?_
  intro e w' h
  have := post_of hS h
  simpa [cat] using this
theorem add4 (s1 s2 s3 s4 : ByteArray) (hS : Ws B p l d w) (hlen : l.length + (s1.data.toList ++ s2.data.toList ++ s3.data.toList ++ s4.data.toList).length ≤ most) : Calls Tryz.prog 27 #[.pointer (some ⟨p, 0, none⟩), .slice (some ⟨w.heap.size, 0, none⟩) 4 4] (w.alloc (.cells #[.string s1, .string s2, .string s3, .string s4] 9)) (Post B p l (s1.data.toList ++ s2.data.toList ++ s3.data.toList ++ s4.data.toList) d w) := by
  refine (add_new [s1, s2, s3, s4] l w hS.wr (by simp [cat] at hlen ⊢; unfold most at hlen; omega) (by simp)).mono ?_
  intro e w' h
  have := post_of hS h
  simpa [cat] using this
/-- So many tabs. -/
def tabsT (k : Nat) : Bs := List.replicate k 9
theorem repeat_tab (k : Nat) : Lib.repeatL [9] k = tabsT k := by
  induction k with
  | zero => rfl
  | succ k ih => unfold tabsT at *; rw [List.replicate_succ, ← ih]; rfl
set_option maxHeartbeats 2000000 in
set_option maxRecDepth 100000 in
theorem tabs_any (hS : Ws B p l d w) (hd : d ≤ 1000000000000) (hlen : l.length + (tabsT d).length ≤ most) : Calls Tryz.prog 42 #[.pointer (some ⟨p, 0, none⟩)] w (Post B p l (tabsT d) d w) := by
  have HR := Lib.hid (Tryz.strings_Repeat ⟨#[9]⟩ d w (by omega) (by show 1 * d ≤ _; omega))
  obtain ⟨s, hs⟩ : ∃ s : ByteArray, s = ⟨(Lib.repeatL [9] d).toArray⟩ := ⟨_, rfl⟩
  have HR : Hid (Calls Tryz.prog 53 #[.string ⟨#[9]⟩, .int .i64 d] w fun e w' => e = .returned (.string s) ∧ Below w.heap.size w w') := by rw [hs]; exact HR.out
  have hs2 : s.data.toList = tabsT d := by rw [hs]; exact repeat_tab d
  have HS := Lib.hid hS
  obtain ⟨c2, f2⟩ := hS.wr.cell2
  rw [← hs2] at hlen ⊢
  have HL := Lib.hid hlen
  clear hS hs hs2 hlen
  go_enter Tryz.func42, Tryz.ntmps42
  go_wp2_with fail
  refine HR.out.mono ?_
  rintro e w1 ⟨rfl, hb1⟩
  have HS1 := Lib.hid (HS.out.kept hb1)
  have HB1 := Lib.hid hb1
  clear hb1
  go_wp2_with fail
  refine (add1 s HS1.out HL.out).mono ?_
  rintro e w2 ⟨rfl, h1, h2, h3⟩
  have HS2 := Lib.hid h1
  have HB2 := Lib.hid ((HB1.out.mono HS.out.hB).trans h2)
  have HK2 : Hid (Keeps p w w2) := (keeps_below HB1.out).trans h3
  clear h1 h2 h3
  go_wp2
  go_end0
  exact ⟨rfl, HS2.out, HB2.out, HK2.out⟩
end Go.Proofs.YtgodeffkboihlaaGreatDoor.Twb
