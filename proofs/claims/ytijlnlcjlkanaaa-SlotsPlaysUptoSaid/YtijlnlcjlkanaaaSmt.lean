/- SlotsPlays: a box written; the handles told grow. -/
import Derived.Test.YtijlnlcjlkanaaaSmr
set_option linter.unusedVariables false
namespace Go.Proofs.Ytijlnlcjlkanaaa.Smt
open Go.RowKit Sta Stb Stc Stg Ste Stj Stk Stl Stn Sto Sue Suf Sug Suh Sui Suj Suk Smp Smr

variable {w0 w w' : World} {gp g gb : Nat} {vs vo vr vt : Value} {t : Tab} {R : List Th} {most : Nat} {ts : List Hd} {b : Nat} {o : Obj}
abbrev hdC (h : Hd) : Obj := .cells #[.int .u32 h.slot, .int .u32 h.gen] 33
theorem Both.only (c : Both w0 gp g gb vs vo vr vt t R most ts w) (x : Bx g gb vs vo vr b o w) (hb : w0.heap.size ≤ b) (np : b ≠ gp) (nt : vt.ownBlock ≠ some b) (h : Rwp.Only b w w') : Both w0 gp g gb vs vo vr vt t R most ts w' := by
  have far : ∀ {k : Nat}, k ≠ b → w'.heap[k]? = w.heap[k]? := fun {k} e => h.far k e
  refine ⟨(far np.symm).trans c.pr, ⟨(far x.ng.symm).trans c.tab.blk, c.tab.sl.kept fun k hk => far fun e => x.ns (e ▸ hk), c.tab.ord.kept fun k hk => far fun e => x.no (e ▸ hk), Nat.lt_of_lt_of_le c.tab.lt h.size⟩, ⟨(far x.nb.symm).trans c.ref.blk, c.ref.all.kept fun k hk => far fun e => x.nr (e ▸ hk), Nat.lt_of_lt_of_le c.ref.lt h.size⟩, c.told.kept fun k hk => far fun e => nt (e ▸ hk), c.d1, c.lp, c.lg, c.lb, c.below.trans ⟨h.os, h.tape, h.output, h.size, fun k hk => far (by omega)⟩⟩
theorem Bx.only {b2 : Nat} {o2 : Obj} (x : Bx g gb vs vo vr b2 o2 w) (hne : b2 ≠ b) (h : Rwp.Only b w w') : Bx g gb vs vo vr b2 o2 w' := ⟨(h.far b2 hne).trans x.blk, x.ng, x.nb, x.ns, x.no, x.nr⟩
/-- What stands behind a call whose first answer is put into a box. -/
structure Put (w0 : World) (gp g gb : Nat) (vs vo vr vt : Value) (t : Tab) (R : List Th) (most : Nat) (ts : List Hd) (b : Nat) (h : Hd) (vs0 vo0 vr0 : Value) (w3 w : World) : Prop where
  both : Both w0 gp g gb vs vo vr vt t R most ts w
  box : Bx g gb vs vo vr b (hdC h) w
  nt : vt.ownBlock ≠ some b
  np : b ≠ gp
  keep : ∀ b2 o2, Bx g gb vs0 vo0 vr0 b2 o2 w3 → Bx g gb vs vo vr b2 o2 w
theorem nt_of (c : Both w0 gp g gb vs vo vr vt t R most ts w) (hb : w.heap.size ≤ b) : vt.ownBlock ≠ some b := fun e => by have := (c.told.lt e).2; omega
theorem np_of (c : Both w0 gp g gb vs vo vr vt t R most ts w) (hb : w.heap.size ≤ b) : b ≠ gp := fun e => by have := (Array.getElem?_eq_some_iff.1 c.pr).1; omega
theorem put_last {vs0 vo0 vr0 : Value} {w3 w4 : World} {h : Hd} (c : Both w0 gp g gb vs vo vr vt t R most ts w4) (k : Keep g gb vs0 vo0 vr0 vs vo vr w3.drew w4) : Put w0 gp g gb vs vo vr vt t R most ts w4.heap.size h vs0 vo0 vr0 w3 (w4.alloc (hdC h)) :=
  ⟨c.quiet (Sug.below_new w4 _), Bx.new c _, nt_of c (Nat.le_refl _), np_of c (Nat.le_refl _), fun b2 o2 x => (k b2 o2 (x.below (Below.refl _ w3).drew)).below (Sug.below_new w4 _)⟩
theorem put_first {vs0 vo0 vr0 : Value} {t0 : Tab} {R0 : List Th} {w3 w4 : World} {h : Hd} (c0 : Both w0 gp g gb vs0 vo0 vr0 vt t0 R0 most ts w3) (c : Both w0 gp g gb vs vo vr vt t R most ts w4) (k : Keep g gb vs0 vo0 vr0 vs vo vr (w3.alloc (hdC ⟨0, 0⟩)).drew w4) :
    Put w0 gp g gb vs vo vr vt t R most ts w3.heap.size h vs0 vo0 vr0 w3 ((w4.setCell ⟨w3.heap.size, 0, none⟩ (.int .u32 h.slot)).setCell ⟨w3.heap.size, 1, none⟩ (.int .u32 h.gen)) := by
  have kx := k _ _ ((Bx.new c0 (hdC ⟨0, 0⟩)).below (Below.refl _ _).drew)
  have ho : Rwp.Only w3.heap.size w4 ((w4.setCell ⟨w3.heap.size, 0, none⟩ (.int .u32 h.slot)).setCell ⟨w3.heap.size, 1, none⟩ (.int .u32 h.gen)) := ((Rwp.Only.refl _ w4).setCell 0 _).setCell 1 _
  refine ⟨Both.only c kx c0.below.size (np_of c0 (Nat.le_refl _)) (nt_of c0 (Nat.le_refl _)) ho, ⟨?_, kx.ng, kx.nb, kx.ns, kx.no, kx.nr⟩, nt_of c0 (Nat.le_refl _), np_of c0 (Nat.le_refl _), fun b2 o2 x => ?_⟩
  · exact heap_setCell_same _ w3.heap.size 1 #[.int .u32 h.slot, .int .u32 (0 : Nat)] _ _ (heap_setCell_same _ w3.heap.size 0 #[.int .u32 (0 : Nat), .int .u32 (0 : Nat)] _ _ kx.blk)
  · have hx := x.lt
    exact Bx.only (k b2 o2 (x.below ((Sug.below_new w3 _).drew))) (by omega) ho
/-- The handles told grow by one. -/
theorem told_put (c : Both w0 gp g gb vs vo vr vt t R most ts w) {W : World} (hW : W.os = w.os ∧ W.tape = w.tape ∧ W.output = w.output) {B b3 cp3 : Nat} {y : Hd} (hB : w0.heap.size ≤ B) (hO : Rwo.Own hdE 33 w0.heap.size (.slice (some ⟨b3, 0, none⟩) (ts.length + 1) cp3) (ts ++ [y]) w') (hb : Below B W w')
    (hfar : ∀ b, b < w.heap.size → vt.ownBlock ≠ some b → w'.heap[b]? = w.heap[b]?) (hsz : w.heap.size < w'.heap.size) (hat : vt.ownBlock = some b3 ∨ w.heap.size ≤ b3) :
    Both w0 gp g gb vs vo vr (.slice (some ⟨b3, 0, none⟩) (ts.length + 1) cp3) t R most (ts ++ [y]) (w'.setCell ⟨gp, 2, none⟩ (.slice (some ⟨b3, 0, none⟩) (ts.length + 1) cp3)) ∧
    ∀ b o, w.heap[b]? = some o → b ≠ gp → vt.ownBlock ≠ some b → (w'.setCell ⟨gp, 2, none⟩ (.slice (some ⟨b3, 0, none⟩) (ts.length + 1) cp3)).heap[b]? = some o := by
  have hgp := (Array.getElem?_eq_some_iff.1 c.pr).1
  have ngv : vt.ownBlock ≠ some gp := row_ne c.told c.pr (by decide)
  have far : ∀ {k : Nat}, k < w.heap.size → k ≠ gp → vt.ownBlock ≠ some k → (w'.setCell ⟨gp, 2, none⟩ (.slice (some ⟨b3, 0, none⟩) (ts.length + 1) cp3)).heap[k]? = w.heap[k]? := fun {k} h1 h2 h3 => (sc_other h2).trans (hfar k h1 h3)
  have hb3 : b3 ≠ gp := fun e => by
    rcases hat with h | h
    · exact ngv (e ▸ h)
    · omega
  have hs2 : (w'.setCell ⟨gp, 2, none⟩ (.slice (some ⟨b3, 0, none⟩) (ts.length + 1) cp3)).heap.size = w'.heap.size := by simp
  refine ⟨⟨?_, ⟨?_, ?_, ?_, ?_⟩, ⟨?_, ?_, ?_⟩, ?_, ?_, c.lp, c.lg, c.lb, ?_⟩, fun b o h1 h2 h3 => (far (Array.getElem?_eq_some_iff.1 h1).1 h2 h3).trans h1⟩
  · exact heap_setCell_same _ gp 2 _ _ _ ((hfar gp hgp ngv).trans c.pr)
  · exact (far c.tab.lt (blk_ne c.tab.blk c.pr (by decide)) (row_ne c.told c.tab.blk (by decide))).trans c.tab.blk
  · exact c.tab.sl.kept fun k hk => far (c.tab.sl.lt hk).2 (fun e => row_ne c.tab.sl c.pr (by decide) (e ▸ hk)) (Rwo.Own.apart c.tab.sl c.told (by decide) hk)
  · exact c.tab.ord.kept fun k hk => far (c.tab.ord.lt hk).2 (fun e => row_ne c.tab.ord c.pr (by decide) (e ▸ hk)) (fun e => c.d1 k e hk)
  · rw [hs2]; exact Nat.lt_trans c.tab.lt hsz
  · exact (far c.ref.lt (blk_ne c.ref.blk c.pr (by decide)) (row_ne c.told c.ref.blk (by decide))).trans c.ref.blk
  · exact c.ref.all.kept fun k hk => far (c.ref.all.lt hk).2 (fun e => row_ne c.ref.all c.pr (by decide) (e ▸ hk)) (Rwo.Own.apart c.ref.all c.told (by decide) hk)
  · rw [hs2]; exact Nat.lt_trans c.ref.lt hsz
  · refine hO.kept fun k hk => sc_other ?_
    have e0 : b3 = k := by simpa [Value.ownBlock] using hk
    rw [← e0]; exact hb3
  · intro k hk e
    have e0 : b3 = k := by simpa [Value.ownBlock] using hk
    rw [← e0] at e
    rcases hat with h | h
    · exact c.d1 b3 h e
    · have := (c.tab.ord.lt e).2; omega
  · have hz := (Below.refl 0 w').setCell (p := ⟨gp, 2, none⟩) (Nat.zero_le _) (.slice (some ⟨b3, 0, none⟩) (ts.length + 1) cp3)
    refine c.below.trans ⟨hz.os.trans (hb.os.trans hW.1), hz.tape.trans (hb.tape.trans hW.2.1), hz.output.trans (hb.output.trans hW.2.2), by rw [hs2]; omega, fun k hk => ?_⟩
    have := c.lp
    have := c.below.size
    exact far (by omega) (by omega) (fun e => by have := (c.told.lt e).1; omega)
end Go.Proofs.Ytijlnlcjlkanaaa.Smt
