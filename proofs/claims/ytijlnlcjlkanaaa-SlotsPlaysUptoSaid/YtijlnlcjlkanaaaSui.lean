/- drowseref10.Table.Take, where a slot is free. -/
import Derived.Test.YtijlnlcjlkanaaaSuh
import Derived.Deep.DeepCutAuto
set_option linter.unusedVariables false
namespace Go.Proofs.Ytijlnlcjlkanaaa.Sui
open Go.RowKit Rwo Sta Stb Stc Stg Ste Stl Stn Sue Suf Sug Suh

/-- What is known behind the append. -/
structure After (g r q b5 cp5 : Nat) (vr : Value) (R : List Th) (most : Nat) (y : Th) (W2 w3 : World) : Prop where
  blk : w3.heap[g]? = some (.cells #[vr, .int .i64 most] 69 (0, 0))
  qblk : w3.heap[q]? = some (.cells #[.int .u32 (y.h.slot : Int), .int .u32 (y.h.gen : Int)] 33 (0, 0))
  rblk : w3.heap[r]? = some (.cells #[.int .u32 0, .int .u32 0] 33 (0, 0))
  all : Own thE 102 (g + 1) (.slice (some ⟨b5, 0, none⟩) (R.length + 1) cp5) (R ++ [y]) w3
  size : W2.heap.size < w3.heap.size
  os : w3.os = W2.os ∧ w3.tape = W2.tape ∧ w3.output = W2.output
  far : ∀ b, b < W2.heap.size → vr.ownBlock ≠ some b → w3.heap[b]? = W2.heap[b]?
  nv : vr.ownBlock = some b5 ∨ W2.heap.size ≤ b5
theorem after {g r q b5 cp5 : Nat} {vr : Value} {R : List Th} {most : Nat} {y : Th} {W2 W w3 : World} (h : RefAt g vr R most W2) (hq : W2.heap[q]? = some (.cells #[.int .u32 (y.h.slot : Int), .int .u32 (y.h.gen : Int)] 33 (0, 0))) (hr : W2.heap[r]? = some (.cells #[.int .u32 0, .int .u32 0] 33 (0, 0)))
    (hfar : ∀ b, b < W2.heap.size → vr.ownBlock ≠ some b → w3.heap[b]? = W2.heap[b]?) (hO : Own thE 102 (g + 1) (.slice (some ⟨b5, 0, none⟩) (R.length + 1) cp5) (R ++ [y]) w3) (hat : vr.ownBlock = some b5 ∨ W2.heap.size ≤ b5) (hb : Below (g + 1) W w3) (hsz : W2.heap.size < w3.heap.size) (hW : W.os = W2.os ∧ W.tape = W2.tape ∧ W.output = W2.output)
    (nq : vr.ownBlock ≠ some q) (nr : vr.ownBlock ≠ some r) : After g r q b5 cp5 vr R most y W2 w3 :=
  ⟨(hfar g h.lt (fun e => by have := (h.all.lt e).1; omega)).trans h.blk, (hfar q (Array.getElem?_eq_some_iff.1 hq).1 nq).trans hq, (hfar r (Array.getElem?_eq_some_iff.1 hr).1 nr).trans hr, hO, hsz, ⟨hb.os.trans hW.1, hb.tape.trans hW.2.1, hb.output.trans hW.2.2⟩, hfar, hat⟩
theorem take_end {g r q b5 cp5 : Nat} {vr : Value} {R : List Th} {most : Nat} {y : Th} {w W0 W2 w3 : World} (a : After g r q b5 cp5 vr R most y W2 w3) (h : RefAt g vr R most w) (hr : r = w.heap.size) (hb : Below w.heap.size w W0) (hb2 : Below W0.heap.size W0 W2) (hw0 : w.heap.size < W0.heap.size) :
    (((w3.setCell ⟨g, 0, none⟩ (.slice (some ⟨b5, 0, none⟩) (R.length + 1) cp5)).setCell ⟨r, 0, none⟩ (.int .u32 y.h.slot)).setCell ⟨r, 1, none⟩ (.int .u32 y.h.gen)).heap[r]? = some (.cells #[.int .u32 y.h.slot, .int .u32 y.h.gen] 33 (0, 0)) ∧
    RefAt g (.slice (some ⟨b5, 0, none⟩) (R.length + 1) cp5) (R ++ [y]) most (((w3.setCell ⟨g, 0, none⟩ (.slice (some ⟨b5, 0, none⟩) (R.length + 1) cp5)).setCell ⟨r, 0, none⟩ (.int .u32 y.h.slot)).setCell ⟨r, 1, none⟩ (.int .u32 y.h.gen)) ∧
    RefStep g vr (.slice (some ⟨b5, 0, none⟩) (R.length + 1) cp5) w (((w3.setCell ⟨g, 0, none⟩ (.slice (some ⟨b5, 0, none⟩) (R.length + 1) cp5)).setCell ⟨r, 0, none⟩ (.int .u32 y.h.slot)).setCell ⟨r, 1, none⟩ (.int .u32 y.h.gen)) := by
  have hlt := h.lt
  have hz2 := hb2.size
  have hz3 := a.size
  have hgr : g ≠ r := by omega
  have hrg : r ≠ g := by omega
  have nb5 : b5 ≠ r := fun e => by
    rcases a.nv with hx | hx
    · have := (h.all.lt hx).2; omega
    · omega
  have hB := (((Below.refl 0 w3).setCell (p := ⟨g, 0, none⟩) (Nat.zero_le _) (.slice (some ⟨b5, 0, none⟩) (R.length + 1) cp5)).setCell (p := ⟨r, 0, none⟩) (Nat.zero_le _) (.int .u32 y.h.slot)).setCell (p := ⟨r, 1, none⟩) (Nat.zero_le _) (.int .u32 y.h.gen)
  have hbb := hb.trans (hb2.mono hb.size)
  refine ⟨?_, ⟨?_, ?_, ?_⟩, ⟨hB.os.trans (a.os.1.trans hbb.os), hB.tape.trans (a.os.2.1.trans hbb.tape), hB.output.trans (a.os.2.2.trans hbb.output), ?_, ?_, ?_⟩⟩
  · exact heap_setCell_same _ r 1 #[.int .u32 y.h.slot, .int .u32 0] _ _ (heap_setCell_same _ r 0 #[.int .u32 0, .int .u32 0] _ _ (by rw [sc_other hrg]; exact a.rblk))
  · rw [sc_other hgr, sc_other hgr]
    exact heap_setCell_same _ g 0 _ _ _ a.blk
  · refine Own.kept (w := w3) a.all fun b hb => ?_
    have e1 : b ≠ g := by have := (a.all.lt hb).1; omega
    have e0 : b5 = b := by simpa [Value.ownBlock] using hb
    have e2 : b ≠ r := by rw [← e0]; exact nb5
    rw [sc_other e2, sc_other e2, sc_other e1]
  · have := hB.size; have := hbb.size; omega
  · have := hB.size; have := hbb.size; omega
  · intro b hb' hbg hv
    have e2 : b ≠ r := by omega
    rw [sc_other e2, sc_other e2, sc_other hbg, a.far b (by have := hbb.size; omega) hv]
    exact hbb.block b hb'
  · intro b hb'
    have e0 : b5 = b := by simpa [Value.ownBlock] using hb'
    rw [← e0]
    exact a.nv.imp id (fun hx => by have := hbb.size; omega)
set_option maxHeartbeats 8000000 in
set_option maxRecDepth 100000 in
theorem rtake_yes (g : Nat) (vr : Value) (R : List Th) (most s0 : Nat) (x : Int) (w : World) (h : Hid (RefAt g vr R most w)) (hn : R.length ≤ 1000000) (hm : most ≤ 500) (h1 : 1 ≤ s0) (h2 : s0 ≤ most) (hf : Hid (used R s0 = false)) (hu : Hid (∀ s, 1 ≤ s → s < s0 → used R s = true)) (hsl : Hid (∀ t ∈ R, t.h.slot ≤ 1000000)) (C : Nat) (hC : Hid (1 + taken R s0 = C)) :
    Calls Try.prog 40 #[.pointer (some ⟨g, 0, none⟩), .int .i64 x] w fun e w' => e = .returned (.tuple #[.agg #[.int .u32 s0, .int .u32 C], .bool true]) ∧ ∃ vr', RefAt g vr' (R ++ [⟨⟨s0, C⟩, x, false⟩]) most w' ∧ RefStep g vr vr' w w' := by
  have hb0 := below_new w (.cells #[.int .u32 0, .int .u32 0] 33)
  have hr0 := heap_alloc_new w (.cells #[.int .u32 0, .int .u32 0] 33)
  obtain ⟨W0, hW0⟩ : ∃ W0, W0 = w.alloc (.cells #[.int .u32 0, .int .u32 0] 33) := ⟨_, rfl⟩
  rw [← hW0] at hb0 hr0
  have HR := Lib.hid (h.out.below hb0)
  obtain ⟨⟨c0, c1⟩, _⟩ := HR.out.cells
  obtain ⟨A1, k1, rfl⟩ := Own.shape HR.out.all
  have HB := Lib.hid hb0
  have HR0 := Lib.hid hr0
  clear hb0 hr0
  go_enter Try.func40, Try.ntmps40
  go_wp2_with fail
  rw [← hW0]
  clear hW0
  go_loopw [6] (fun sv wx => ∃ s : Nat, 1 ≤ s ∧ s ≤ s0 ∧ sv = .int .i64 s ∧ W0 = wx) (fun sv _ => s0 + 1 - (intOf sv).toNat)
  case atStart => exact ⟨1, Nat.le_refl _, by omega, rfl, rfl⟩
  case round =>
    obtain ⟨s, hs1, hs2, rfl, rfl⟩ := hrel
    have hsm : (s : Int) ≤ (most : Int) := by omega
    · go_wp2_with fail
      go_loopw [7, 8, 9] (fun gv uv iv wx => ∃ k : Nat, k ≤ R.length ∧ iv = .int .i64 k ∧ (∃ c : Nat, gv = .int .i64 c ∧ Hid (1 + taken (R.take k) s = c) ∧ c ≤ k + 1) ∧ (∃ b : Bool, uv = .bool b ∧ Hid (used (R.take k) s = b)) ∧ W0 = wx) (fun _ _ iv _ => R.length - (intOf iv).toNat)
      case atStart => exact ⟨0, Nat.zero_le _, rfl, ⟨1, rfl, rfl, by omega⟩, ⟨false, rfl, rfl⟩, rfl⟩
      case round =>
        obtain ⟨k, hk, rfl, ⟨c, rfl, HC, hc⟩, ⟨b, rfl, HBB⟩, rfl⟩ := hrel
        by_cases hkl : k < R.length
        · obtain ⟨br, cr, _, hv, _, _, hbr, _⟩ := Own.some HR.out.all (by intro e; rw [e, List.length_nil] at hkl; omega)
          simp only [Value.slice.injEq] at hv
          obtain ⟨rfl, _, rfl⟩ := hv
          obtain ⟨t, ht⟩ : ∃ t, R.getD k th0 = t := ⟨_, rfl⟩
          obtain ⟨d0, _, _, d3⟩ := th_cells HR.out.all k hkl ht
          have hts : t.h.slot ≤ 1000000 := hsl.out t (by rw [← ht]; exact getD_mem hkl)
          obtain ⟨n1, n2⟩ := taken_succ (s := s) hkl ht
          have N1 := Lib.hid n1
          have N2 := Lib.hid n2
          clear n1 n2 ht
          cases e1 : ((t.h.slot : Int) == (s : Int)) with
          | false =>
            have M1 : Hid (1 + taken (R.take (k + 1)) s = c) := by have := N1.out; rw [slot_no e1] at this; have h2 := HC.out; simp at this; show 1 + taken (R.take (k + 1)) s = c; rw [this]; exact h2
            have M2 : Hid (used (R.take (k + 1)) s = b) := by have := N2.out; unfold usedBy at this; rw [slot_no e1, HBB.out] at this; exact (by simpa using this : _ = _)
            clear N1 N2
            go_wp2
            go_roundw
            case rel => exact ⟨k + 1, by omega, by go_num, ⟨c, rfl, M1.out, by omega⟩, ⟨b, rfl, M2.out⟩, trivial⟩
            case measure => simp [intOf]; omega
          | true =>
            have M1 : Hid (1 + taken (R.take (k + 1)) s = c + 1) := by have := N1.out; rw [slot_yes e1] at this; have h2 := HC.out; simp at this; show 1 + taken (R.take (k + 1)) s = c + 1; rw [this, ← Nat.add_assoc]; exact congrArg (· + 1) h2
            cases b with
            | true =>
              have M2 : Hid (used (R.take (k + 1)) s = true) := by have := N2.out; rw [HBB.out] at this; exact (by simpa using this : _ = _)
              clear N1 N2
              go_wp2
              go_roundw
              case rel => exact ⟨k + 1, by omega, by go_num, ⟨c + 1, by go_num, M1.out, by omega⟩, ⟨true, rfl, M2.out⟩, trivial⟩
              case measure => simp [intOf]; omega
            | false =>
              obtain ⟨q, hq⟩ : ∃ q, t.gone = q := ⟨_, rfl⟩
              have M2 : Hid (used (R.take (k + 1)) s = !q) := by have := N2.out; unfold usedBy here at this; rw [slot_yes e1, HBB.out, hq] at this; exact (by simpa using this : _ = _)
              rw [hq] at d3
              clear N1 N2 hq
              go_wp2
              go_roundw
              case rel => exact ⟨k + 1, by omega, by go_num, ⟨c + 1, by go_num, M1.out, by omega⟩, ⟨!q, rfl, M2.out⟩, trivial⟩
              case measure => simp [intOf]; omega
        · have hbt : Hid (used R s = b) := by have h1 := HBB.out; rw [List.take_of_length_le (by omega)] at h1; exact h1
          have hct : Hid (1 + taken R s = c) := by have h1 := HC.out; rw [List.take_of_length_le (by omega)] at h1; exact h1
          clear HBB HC
          by_cases hss : s < s0
          · have hbb : b = true := by rw [← hbt.out]; exact hu.out s hs1 hss
            subst hbb
            clear hbt hct
            go_wp2
            go_roundw
            case rel => exact ⟨s + 1, by omega, by omega, by go_num, trivial⟩
            case measure => simp [intOf]; omega
          · have hse : s = s0 := by omega
            subst hse
            have hbb : b = false := by rw [← hbt.out]; exact hf.out
            have hcc : c = C := by rw [← hct.out]; exact hC.out
            subst hbb
            subst hcc
            have u1 : IntKind.u32.wrap (s : Int) = (s : Int) := by rw [IntKind.wrap_u32]; omega
            have u2 : IntKind.u32.wrap (c : Int) = (c : Int) := by rw [IntKind.wrap_u32]; omega
            have hcb : c ≤ 1000001 := by omega
            clear hbt hct hu hf
            go_upto_region 14 with fail
            have hb2 := below_new W0 (.cells #[.int .u32 s, .int .u32 c] 33)
            have hq2 := heap_alloc_new W0 (.cells #[.int .u32 s, .int .u32 c] 33)
            have hz2 : W0.heap.size < (W0.alloc (.cells #[.int .u32 s, .int .u32 c] 33)).heap.size := by simp
            obtain ⟨W2, hW2⟩ : ∃ W2, W2 = W0.alloc (.cells #[.int .u32 s, .int .u32 c] 33) := ⟨_, rfl⟩
            rw [← hW2] at hb2 hq2 hz2
            rw [← hW2]
            clear hW2
            have HR2 := Lib.hid (HR.out.below hb2)
            have HRR := Lib.hid ((hb2.block w.heap.size (Array.getElem?_eq_some_iff.1 HR0.out).1).trans HR0.out)
            have HB2 := Lib.hid hb2
            have HQ2 := Lib.hid hq2
            have HZ := Lib.hid (And.intro (Array.getElem?_eq_some_iff.1 HR0.out).1 hz2)
            obtain ⟨⟨c0, _⟩, f0⟩ := HR2.out.cells
            obtain ⟨e0, e1, _, _⟩ := hd_cells HQ2.out
            have hgz : g + 1 ≤ W2.heap.size := HR2.out.lt
            have hgq : g ≠ W0.heap.size := by have := HR.out.lt; omega
            have hqg : W0.heap.size ≠ g := fun e => hgq e.symm
            have HNQ : Hid ((Value.slice A1 R.length k1).ownBlock ≠ some W0.heap.size ∧ (Value.slice A1 R.length k1).ownBlock ≠ some w.heap.size) :=
              ⟨fun e => by have := (HR.out.all.lt e).2; omega, fun e => by have := (h.out.all.lt e).2; omega⟩
            have hg2 : g < W2.heap.size := HR2.out.lt
            have hq2' : W0.heap.size < W2.heap.size := HZ.out.2
            have hgh : g ≠ W2.heap.size := by omega
            have hhg : W2.heap.size ≠ g := by omega
            have hqh : W0.heap.size ≠ W2.heap.size := by omega
            have hhq : W2.heap.size ≠ W0.heap.size := by omega
            clear hb2 hq2 hz2
            go_region_law ((refine Rwo.step_append (E := thE) (by rfl) _ _ _ (by rfl) 102 _ 24 Try.underlying67 infoTh (by rfl) (g + 1) _ R W2 HR2.out.all (by rfl) ⟨⟨s, c⟩, x, false⟩ _ (by rfl) _ W2.heap.size (by rfl) (by rfl) (by omega) ⟨hgz, by rfl⟩ ?_; intro g3 cp3 w3 hO3 hb3 hfar hsz3 hat; have hF := after (most := most) HR2.out HQ2.out HRR.out hfar hO3 hat hb3 hsz3 ⟨rfl, rfl, rfl⟩ HNQ.out.1 HNQ.out.2; obtain ⟨m0, m1, n0, n1⟩ := hd_cells hF.blk; obtain ⟨o0, o1, p0, p1⟩ := hd_cells hF.qblk; obtain ⟨r0, r1, q0, q1⟩ := hd_cells hF.rblk; have HF := Lib.hid hF; clear hF hO3 hb3 hfar hsz3 hat))
            all_goals
              have HFIN := Lib.hid (take_end HF.out h.out rfl HB.out HB2.out HZ.out.1)
              have hgw : g ≠ w.heap.size := by have := h.out.lt; omega
              have hwg : w.heap.size ≠ g := fun e => hgw e.symm
              have hqw : W0.heap.size ≠ w.heap.size := by have := HZ.out.1; omega
              have hwq : w.heap.size ≠ W0.heap.size := fun e => hqw e.symm
              go_wp2
              refine bodyPost_ret (hd_results rfl _ _ w.heap.size #[.int .u32 s, .int .u32 c] rfl HFIN.out.1 rfl) rfl ?_
              exact ⟨rfl, _, HFIN.out.2.1, HFIN.out.2.2⟩
end Go.Proofs.Ytijlnlcjlkanaaa.Sui
