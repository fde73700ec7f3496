/- tree's writer: a builder inside a struct of three cells; what is written on it. -/
import Derived.Test.YtgodeffkboihlaaGreatDoorTsb
import Derived.Lib.FrozenHead2
import Derived.Lib.OthersKept
import Derived.Lib.Walk
import Derived.Lib.Strings
import Derived.Lib.Slices
import Derived.Lib.Builder
import Derived.Lib.AppendStr
import Derived.Lib.UnsafeStr
import Derived.Lib.MakeNoZero
import Derived.WalkKit
import Derived.WalkLawsBesides
import Derived.Laws.Externs
import Derived.Laws.IdiomCopy
import Derived.KernelRfl
import Derived.Below
set_option linter.unusedVariables false
namespace Go.Proofs.YtgodeffkboihlaaGreatDoor.Twa
open Go.RowKit

theorem sizeBld : (Tryz.prog.info? 48).map (fun i => i.size) = some 2 := by kernel_rfl
theorem infoByte : (Tryz.prog.info? 5).map (fun i => (i.zero, i.size, i.bytes)) = some (some (.int .u8 0), 1, 1) := by kernel_rfl
/-- A writer at block b, not below B, that holds bs, so deep. -/
def WrAt (B b : Nat) (p : Value) (l : List UInt8) (d : Int) (w : World) : Prop :=
  B ≤ b ∧ ∃ v, w.heap[b]? = some (.cells #[p, v, .int .i64 d] 50 (0, 0)) ∧ w.ownsRowF B 5 1 v (Lib.byteCells l).length (Lib.byteCells l) ∧ v.ownBlock ≠ some b
def Wr (B b : Nat) (l : List UInt8) (d : Int) (w : World) : Prop := WrAt B b (.pointer none) l d w ∨ WrAt B b (.pointer (some ⟨b, 0, none⟩)) l d w
variable {B b : Nat} {p : Value} {l : List UInt8} {d : Int} {w w' : World}
theorem WrAt.lt (h : WrAt B b p l d w) : b < w.heap.size := by
  obtain ⟨_, v, hb, _⟩ := h
  exact (Array.getElem?_eq_some_iff.1 hb).1
theorem Wr.lt (h : Wr B b l d w) : b < w.heap.size := by rcases h with h | h <;> exact h.lt
theorem Wr.le (h : Wr B b l d w) : B ≤ b := by rcases h with h | h <;> exact h.1
theorem WrAt.kept (h : WrAt B b p l d w) (hb : Below w.heap.size w w') : WrAt B b p l d w' := by
  obtain ⟨h1, v, h2, h3, h4⟩ := h
  refine ⟨h1, v, (hb.block b (Array.getElem?_eq_some_iff.1 h2).1).trans h2, ⟨h3.1, ?_⟩, h4⟩
  rcases h3.2 with hn | ⟨g, cap, cur, fz, rfl, hbg, hgg, rest⟩
  · exact .inl hn
  · exact .inr ⟨g, cap, cur, fz, rfl, hbg, (hb.block g (Array.getElem?_eq_some_iff.1 hgg).1).trans hgg, rest⟩
theorem Wr.kept (h : Wr B b l d w) (hb : Below w.heap.size w w') : Wr B b l d w' := by
  rcases h with h | h
  · exact .inl (h.kept hb)
  · exact .inr (h.kept hb)
theorem WrAt.used (h : WrAt B b p l d w) (q : Value) : WrAt B b q l d (w.setCell ⟨b, 0, none⟩ q) := by
  have hlt := h.lt
  obtain ⟨hB, v, hb, hown, hne⟩ := h
  refine ⟨hB, v, ?_, ?_, hne⟩
  · simp [World.setCell, Array.getElem?_modify, hb]
  · refine hown.kept (row := some b) ⟨rfl, rfl, rfl, by simp [World.setCell], fun k _ hk => Below.heap_setCell _ _ _ _ (fun e => hk (by simp [e]))⟩ ?_
    exact Or.inr hne
theorem own_ne {e T : TypeId} {v : Value} {n : Nat} {xs : List Value} {cs : Array Value} {fr : Nat × Nat} (hown : w.ownsRowF B e 1 v n xs) (hb : w.heap[b]? = some (.cells cs T fr)) (hTe : T ≠ e) : v.ownBlock ≠ some b := by
  rcases hown.2 with ⟨rfl, _⟩ | ⟨g, cap, cur, fz, rfl, _, hg, _⟩
  · simp [Value.ownBlock]
  · intro h
    simp only [Value.ownBlock, Option.some.injEq] at h
    subst h
    rw [hg] at hb
    simp only [Option.some.injEq, Obj.cells.injEq] at hb
    exact hTe hb.2.1.symm
theorem WrAt.put {v v' : Value} {l' : List UInt8} (hB : B ≤ b) (hb : w.heap[b]? = some (.cells #[p, v, .int .i64 d] 50 (0, 0))) (hown : w.ownsRowF B 5 1 v' (Lib.byteCells l').length (Lib.byteCells l')) :
    WrAt B b p l' d (w.setCell ⟨b, 1, none⟩ v') := by
  have hne := own_ne hown hb (by decide)
  refine ⟨hB, v', ?_, ?_, hne⟩
  · simp [World.setCell, Array.getElem?_modify, hb]
  · exact hown.kept (row := some b) ⟨rfl, rfl, rfl, by simp [World.setCell], fun k _ hk => Below.heap_setCell _ _ _ _ (fun e => hk (by simp [e]))⟩ (Or.inr hne)
/-- How deep, set anew. -/
theorem WrAt.deep (h : WrAt B b p l d w) (d' : Int) : WrAt B b p l d' (w.setCell ⟨b, 2, none⟩ (.int .i64 d')) := by
  obtain ⟨hB, v, hb, hown, hne⟩ := h
  refine ⟨hB, v, ?_, ?_, hne⟩
  · simp [World.setCell, Array.getElem?_modify, hb]
  · exact hown.kept (row := some b) ⟨rfl, rfl, rfl, by simp [World.setCell], fun k _ hk => Below.heap_setCell _ _ _ _ (fun e => hk (by simp [e]))⟩ (Or.inr hne)
theorem Wr.deep (h : Wr B b l d w) (d' : Int) : Wr B b l d' (w.setCell ⟨b, 2, none⟩ (.int .i64 d')) := by
  rcases h with h | h
  · exact .inl (h.deep d')
  · exact .inr (h.deep d')
theorem Wr.cell2 (h : Wr B b l d w) : w.cell? ⟨b, 2, none⟩ = some (.int .i64 d) ∧ w.frozen? ⟨b, 2, none⟩ = false := by
  rcases h with h | h
  all_goals
    obtain ⟨_, v, hb, _⟩ := h
    exact ⟨by rw [Lib.cell_of_heap hb]; rfl, Lib.frozen_of_heap hb 2⟩
set_option maxHeartbeats 1000000 in
set_option maxRecDepth 100000 in
theorem copyCheck_used (b : Nat) (w : World) (h0 : w.cell? ⟨b, 0, none⟩ = some (.pointer (some ⟨b, 0, none⟩))) :
    Calls Tryz.prog 51 #[.pointer (some ⟨b, 0, none⟩)] w fun e w' => e = .returned (.tuple #[]) ∧ w = w' := by
  obtain ⟨j, hj, _⟩ := Option.map_eq_some_iff.1 sizeBld
  go_enter Tryz.func51, Tryz.ntmps51
  go_wp2
  rw [Lib.run_neq_ptr_same w _ Tryz.underlying45 hj]
  go_wp2
  go_end0
  exact ⟨rfl, rfl⟩
set_option maxHeartbeats 1000000 in
set_option maxRecDepth 100000 in
theorem copyCheck_fresh (b : Nat) (w : World) (h0 : w.cell? ⟨b, 0, none⟩ = some (.pointer none)) (hsh : w.shape? b = some (50, 3)) (hfz : w.frozen? ⟨b, 0, none⟩ = false) :
    Calls Tryz.prog 51 #[.pointer (some ⟨b, 0, none⟩)] w fun e w' => e = .returned (.tuple #[]) ∧ w' = w.setCell ⟨b, 0, none⟩ (.pointer (some ⟨b, 0, none⟩)) := by
  obtain ⟨j, hj, hjs⟩ := Option.map_eq_some_iff.1 sizeBld
  go_enter Tryz.func51, Tryz.ntmps51
  go_wp2
  rw [Lib.run_to_unsafe w ⟨b, 0, none⟩ Tryz.underlying45 Tryz.underlying73 hj (by rw [hjs]; decide) hsh (Nat.zero_lt_succ 2)]
  simp only [Result.andThen]
  rw [Oper.upon_value]
  go_wp2
  rw [run_callFunc_extern Tryz.func67 (by kernel_rfl) (by kernel_rfl) (by kernel_rfl) (e := Extern.AbiNoEscape.same) (by kernel_rfl)]
  rw [Lib.run_noEscape]
  simp only [Result.andThen]
  rw [Oper.upon_value]
  go_wp2
  rw [Lib.run_from_unsafe w ⟨b, 0, none⟩ Tryz.underlying73 Tryz.underlying45 hj hsh (by kernel_rfl)]
  simp only [Result.andThen]
  rw [Oper.upon_value]
  go_wp2
  go_end0
  exact ⟨rfl, rfl⟩
theorem copyCheck (l : List UInt8) (w : World) (h : Wr B b l d w) :
    Calls Tryz.prog 51 #[.pointer (some ⟨b, 0, none⟩)] w fun e w' => e = .returned (.tuple #[]) ∧ (WrAt B b (.pointer (some ⟨b, 0, none⟩)) l d w' ∧ Below B w w' ∧ Lib.OthersKept 5 (some b) w w') := by
  rcases h with h | h
  · have h' := h
    obtain ⟨hB, v, hb, hown, hne⟩ := h'
    refine (copyCheck_fresh b w (by rw [Lib.cell_of_heap hb]; rfl) (by simp [World.shape?, hb]) (Lib.frozen_of_heap hb 0)).mono ?_
    rintro e w' ⟨rfl, rfl⟩
    exact ⟨rfl, h.used _, (Below.refl B w).setCell (p := ⟨b, 0, none⟩) h.1 _, (Lib.OthersKept.refl _ _ w).setCell ⟨b, 0, none⟩ rfl _⟩
  · have h' := h
    obtain ⟨hB, v, hb, hown, hne⟩ := h'
    refine (copyCheck_used b w (by rw [Lib.cell_of_heap hb]; rfl)).mono ?_
    rintro e w' ⟨rfl, rfl⟩
    exact ⟨rfl, h, Below.refl B _, Lib.OthersKept.refl _ _ _⟩
theorem byteCells_append (l m : List UInt8) : Lib.byteCells (l ++ m) = Lib.byteCells l ++ Lib.byteCells m := by simp [Lib.byteCells]
theorem byteCells_len (l : List UInt8) : (Lib.byteCells l).length = l.length := by simp [Lib.byteCells]
theorem strCells_is (s : ByteArray) : Lib.strCells s = Lib.byteCells s.data.toList := rfl
set_option maxHeartbeats 2000000 in
set_option maxRecDepth 100000 in
theorem writeString (l : List UInt8) (s : ByteArray) (w : World) (h : Wr B b l d w) (hlen : l.length + s.data.toList.length ≤ 140737488355328) (hBw : B ≤ w.heap.size) :
    Calls Tryz.prog 40 #[.pointer (some ⟨b, 0, none⟩), .string s] w fun e w' => e = .returned (.tuple #[.int .i64 s.size, .nilIface]) ∧ (Wr B b (l ++ s.data.toList) d w' ∧ Below B w w' ∧ Lib.OthersKept 5 (some b) w w') := by
  obtain ⟨i0, hi, hz0, hz1, hz2⟩ := info_parts infoByte
  have hsz : s.data.toList.length = s.size := by rw [Array.length_toList]; rfl
  rw [hsz] at hlen
  go_enter Tryz.func40, Tryz.ntmps40
  go_wp2_with (go_at_call 51; refine (copyCheck l _ h).mono ?_)
  rintro e w1 ⟨rfl, h1, hb1, hk1⟩
  obtain ⟨hB, v, hbk, hown, hne⟩ := h1
  have c0 : w1.cell? ⟨b, 0, none⟩ = some (.pointer (some ⟨b, 0, none⟩)) := by rw [Lib.cell_of_heap hbk]; rfl
  have c1 : w1.cell? ⟨b, 1, none⟩ = some v := by rw [Lib.cell_of_heap hbk]; rfl
  go_wp2_with (at_builtin; refine Lib.wpList_append_own_stringF _ rfl _ _ 46 9 rfl B 5 i0 Tryz.underlying46 Tryz.underlying9 hi hz0 hz1 hz2 _ _ _ rfl hown s rfl ?c3 ?c4 ?c5 ?_)
  case c3 => unfold maxLen; have := byteCells_len l; omega
  case c4 => have := byteCells_len l; omega
  case c5 => have := hb1.size; omega
  intro v' w2 hown' hgrow _
  have hlt : b < w1.heap.size := by
    rcases Nat.lt_or_ge b w1.heap.size with h' | h'
    · exact h'
    · simp [Array.getElem?_eq_none h'] at hbk
  have hb2 : w2.heap[b]? = some (.cells #[.pointer (some ⟨b, 0, none⟩), v, .int .i64 d] 50 (0, 0)) := by
    rw [hgrow.block b hlt (fun e => hne e.symm)]
    exact hbk
  have d0 : w2.cell? ⟨b, 0, none⟩ = some (.pointer (some ⟨b, 0, none⟩)) := by rw [Lib.cell_of_heap hb2]; rfl
  have d1 : w2.cell? ⟨b, 1, none⟩ = some v := by rw [Lib.cell_of_heap hb2]; rfl
  have f1 : w2.frozen? ⟨b, 1, none⟩ = false := Lib.frozen_of_heap hb2 1
  obtain ⟨ao, n', cap, rfl⟩ : ∃ ao n' cap, v' = .slice ao n' cap := by
    rcases hown'.2 with ⟨hv, _⟩ | ⟨g, cap, cur, fz, hv, _⟩
    · exact ⟨_, _, _, hv⟩
    · exact ⟨_, _, _, hv⟩
  go_wp2
  go_ret2
  refine ⟨rfl, .inr ?_, ?_, (hk1.grown hgrow (Lib.ownsRowF_kind hown)).setCell ⟨b, 1, none⟩ rfl _⟩
  · refine WrAt.put hB hb2 ?_
    rw [byteCells_append, ← strCells_is, List.length_append, Lib.strCells_length]
    exact hown'
  · exact (hb1.grown hgrow (by have := hb1.size; omega) (fun k hk => (hown.lt k hk).1)).setCell (p := ⟨b, 1, none⟩) hB _
/-- Texts, one behind the other. -/
def cat (ps : List ByteArray) : List UInt8 := ps.flatMap fun s => s.data.toList
theorem len_le {l : List ByteArray} {i : Nat} : (cat (l.take i)).length ≤ (cat l).length := by
  have : cat l = cat (l.take i) ++ cat (l.drop i) := by unfold cat; rw [← List.flatMap_append, List.take_append_drop]
  rw [this]; simp
theorem take_snoc (ps : List ByteArray) (i : Nat) (hi : i < ps.length) : cat (ps.take (i + 1)) = cat (ps.take i) ++ (ps.getD i .empty).data.toList := by
  unfold cat
  rw [List.take_add_one, List.getElem?_eq_getElem hi, List.flatMap_append]
  simp [List.getD_eq_getElem?_getD, hi]
/-- What stays where a writer is written on: all blocks but its own and rows of bytes. -/
abbrev Keeps (b : Nat) (w w' : World) : Prop := Lib.OthersKept 5 (some b) w w'
theorem keeps_below {w w' : World} (h : Below w.heap.size w w') : Keeps b w w' := fun k o hk _ _ => (h.block k (Array.getElem?_eq_some_iff.1 hk).1).trans hk
/-- What a writing call leaves. -/
def Wrote (B b : Nat) (l x : List UInt8) (d : Int) (w : World) (e : Ending) (w' : World) : Prop := e = .returned (.tuple #[]) ∧ Wr B b (l ++ x) d w' ∧ Below B w w' ∧ Keeps b w w'
set_option maxHeartbeats 2000000 in
set_option maxRecDepth 100000 in
theorem add_any (ps : List ByteArray) (l : List UInt8) (q : Nat) (w : World) (h : Wr B b l d w) (hq : w.heap[q]? = some (.cells (ps.map Value.string).toArray 9 (0, 0))) (hqb : q ≠ b) (hlen : l.length + (cat ps).length ≤ 140737488355328) (hps : ps.length ≤ 1000) :
    Calls Tryz.prog 27 #[.pointer (some ⟨b, 0, none⟩), .slice (some ⟨q, 0, none⟩) ps.length ps.length] w (Wrote B b l (cat ps) d w) := by
  have hBw : B ≤ w.heap.size := Nat.le_trans h.le (Nat.le_of_lt h.lt)
  have HQ := Lib.hid hq
  have H := Lib.hid h
  clear hq h
  unfold Wrote
  go_enter Tryz.func27, Tryz.ntmps27
  go_wp2_with fail
  go_loopw [8] (fun i wr => ∃ k : Nat, k ≤ ps.length ∧ i = .int .i64 k ∧ Hid (Wr B b (l ++ cat (ps.take k)) d wr) ∧ Hid (Below B w wr) ∧ Hid (Keeps b w wr)) (fun i _ => ps.length - (intOf i).toNat)
  case atStart => exact ⟨0, Nat.zero_le _, rfl, by show Wr B b (l ++ cat (ps.take 0)) d w; simpa [cat] using H.out, Below.refl _ _, Lib.OthersKept.refl _ _ _⟩
  case round =>
    obtain ⟨k, hk, rfl, hw, hbw, hkw⟩ := hrel
    by_cases hlt : k < ps.length
    · have hr : wr.heap[q]? = some (.cells (ps.map Value.string).toArray 9 (0, 0)) := hkw.out q _ HQ.out (fun e => hqb (Option.some.inj e)) (fun c fz e => by simp at e)
      have hcell : wr.cell? ⟨q, k, none⟩ = some (.string (ps.getD k .empty)) := by
        rw [Lib.cell_of_heap hr]; simp [List.getD_eq_getElem?_getD, hlt]
      obtain ⟨s, hs⟩ : ∃ s, ps.getD k .empty = s := ⟨_, rfl⟩
      rw [hs] at hcell
      have hsn := take_snoc ps k hlt
      rw [hs] at hsn
      have hle := len_le (l := ps) (i := k + 1)
      have HW := Lib.hid (writeString (l ++ cat (ps.take k)) s wr hw.out (by rw [hsn] at hle; simp at hle ⊢; omega) (Nat.le_trans hw.out.le (Nat.le_of_lt hw.out.lt)))
      have HSN := Lib.hid hsn
      clear hr hs hle hsn
      go_wp2_with fail
      refine HW.out.mono ?_
      rintro e w1 ⟨rfl, h1, hb1, hk1⟩
      have H1 : Hid (Wr B b (l ++ cat (ps.take (k + 1))) d w1) := by
        show Wr B b (l ++ cat (ps.take (k + 1))) d w1
        rw [HSN.out, ← List.append_assoc]; exact h1
      have HB1 := Lib.hid (hbw.out.trans hb1)
      have HK1 := Lib.hid (hkw.out.trans hk1)
      clear h1 hb1 hk1
      go_wp2
      go_roundw
      case rel => exact ⟨k + 1, by omega, by go_num, H1, HB1, HK1⟩
      case measure => simp [intOf]; omega
    · obtain rfl : k = ps.length := by omega
      go_wp2
      go_end0
      exact ⟨rfl, by have := hw.out; rwa [List.take_length] at this, hbw.out, hkw.out⟩
/-- The same with parts that have just been made. -/
theorem add_new (ps : List ByteArray) (l : List UInt8) (w : World) (h : Wr B b l d w) (hlen : l.length + (cat ps).length ≤ 140737488355328) (hps : ps.length ≤ 1000) :
    Calls Tryz.prog 27 #[.pointer (some ⟨b, 0, none⟩), .slice (some ⟨w.heap.size, 0, none⟩) ps.length ps.length] (w.alloc (.cells (ps.map Value.string).toArray 9)) (Wrote B b l (cat ps) d w) := by
  have hBw : B ≤ w.heap.size := Nat.le_trans h.le (Nat.le_of_lt h.lt)
  have hb0 := (Below.refl w.heap.size w).alloc (Nat.le_refl _) (.cells (ps.map Value.string).toArray 9)
  refine (add_any ps l w.heap.size _ (h.kept hb0) (heap_alloc_new w _) (fun e => by have := h.lt; omega) hlen hps).mono ?_
  rintro e w' ⟨he, h1, h2, h3⟩
  exact ⟨he, h1, (hb0.mono hBw).trans h2, (keeps_below hb0).trans h3⟩
end Go.Proofs.YtgodeffkboihlaaGreatDoor.Twa
