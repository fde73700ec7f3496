/- A part of the proof; several texts in one file. -/
import Derived.Test.YtgodeffkboihlaaGreatDoorRows
import Derived.Test.YtgodeffkboihlaaGreatDoorShelg
import Derived.Test.YtgodeffkboihlaaGreatDoorM2
import Derived.Lib.LaidTab
import Derived.Lib.LaidU8
import Derived.Lib.ItoaNum
import Derived.LaidLaws
import Derived.WalkSmall
import Derived.WalkKit
import Derived.KernelRfl
import Derived.Test.YtgodeffkboihlaaGreatDoorProg
import Derived.Lib.FrozenHead2
import Derived.Lib.OthersKept
import Derived.Lib.Walk
import Derived.Lib.Strings
import Derived.Lib.Slices
import Derived.Lib.Builder
import Derived.Lib.AppendStr
import Derived.Lib.UnsafeStr
import Derived.Lib.MakeNoZero
import Derived.WalkLawsBesides
import Derived.Laws.Externs
import Derived.Laws.IdiomCopy
import Derived.Below
import Derived.Outline
import Derived.Lib.Hide
/- The powers of ten, and words.Int with them; what stays of them. -/
set_option linter.unusedVariables false
namespace Go.Proofs.YtgodeffkboihlaaGreatDoor.Twq
open Go.RowKit

theorem gPow : Tryz.prog.globalNamed "internal/strconv.uint64pow10" = some 3 := by kernel_rfl
structure Pow (w : World) : Prop where
  pow : Lib.TabIs Tryz.prog w "internal/strconv.uint64pow10" .u64 Lib.pow10Tab
  size : 3 < w.heap.size
theorem pow_low {B : Nat} {w w' : World} (hg : 3 < B) (h : Lib.TabIs Tryz.prog w "internal/strconv.uint64pow10" .u64 Lib.pow10Tab) (hb : Below B w w') : Lib.TabIs Tryz.prog w' "internal/strconv.uint64pow10" .u64 Lib.pow10Tab := by
  unfold Lib.TabIs at h ⊢
  rw [← h]
  unfold World.var?
  rw [gPow]
  simp only [Option.bind_some]
  rw [hb.block _ hg]
theorem Pow.below {w w' : World} (h : Pow w) (b : Below w.heap.size w w') : Pow w' := ⟨pow_low h.size h.pow b, Nat.lt_of_lt_of_le h.size b.size⟩
theorem below_grow (w : World) (os : Array Obj) : Below w.heap.size w (Sort.grow w os) :=
  ⟨rfl, rfl, rfl, by simp [Sort.grow], fun k hk => by simp [Sort.grow, Array.getElem?_append_left hk]⟩
set_option maxRecDepth 100000 in
theorem int_pow (n : Int) (w : World) (h0 : -9223372036854775808 ≤ n) (h1 : n ≤ 9223372036854775807) (hE : Pow w) :
    Calls Tryz.prog 113 #[.int .i64 n] w fun e w' => e = .returned (.string ⟨(Lib.itoa n).toArray⟩) ∧ Below w.heap.size w w' := by
  have core : Calls Tryz.prog 145 #[.int .i64 n, .int .i64 10] w fun e w' => e = .returned (.string ⟨(Lib.itoa n).toArray⟩) ∧ Below w.heap.size w w' := by
    refine (Tryz.strconv_FormatInt_10 n h0 h1 w hE.pow).mono ?_
    rintro e w' ⟨rfl, k, os, rfl⟩
    exact ⟨rfl, (Wrd.below_drewN w k).trans ((below_grow (w.drewN k) os).mono (Wrd.below_drewN w k).size)⟩
  have HC := Lib.hid core
  clear core
  go_enter Tryz.func113, Tryz.ntmps113
  go_wp2_with fail
  refine HC.out.mono ?_
  rintro e w1 ⟨rfl, hb⟩
  go_wp2
  go_ret
  exact ⟨rfl, hb⟩
end Go.Proofs.YtgodeffkboihlaaGreatDoor.Twq

/- strings.Builder at this dump: copyCheck, WriteByte, WriteString, String, at a builder that the call itself has made; the new length at most 2^47. Over the library's own 'IsBuilderF'. -/
set_option linter.unusedVariables false
namespace Go.Proofs.YtgodeffkboihlaaGreatDoor.Bld
open Go.RowKit

theorem sizeBld : (Tryz.prog.info? 48).map (fun i => i.size) = some 2 := by kernel_rfl
theorem infoByte : (Tryz.prog.info? 5).map (fun i => (i.zero, i.size, i.bytes)) = some (some (.int .u8 0), 1, 1) := by kernel_rfl

/-- A builder at block b that holds bs, nothing below B touched. -/
abbrev Is (B b : Nat) (bs : List Value) (w : World) : Prop := Lib.IsBuilderF 48 5 B b bs w
abbrev At (B b : Nat) (p : Value) (bs : List Value) (w : World) : Prop := Lib.BuilderAtF 48 5 B b p bs w

set_option maxHeartbeats 1000000 in
set_option maxRecDepth 100000 in
theorem copyCheck_used (b : Nat) (w : World) (h0 : w.cell? ⟨b, 0, none⟩ = some (.pointer (some ⟨b, 0, none⟩))) :
    Calls Tryz.prog 51 #[.pointer (some ⟨b, 0, none⟩)] w fun e w' => e = .returned (.tuple #[]) ∧ w = w' := by
  obtain ⟨j, hj, _⟩ := Option.map_eq_some_iff.1 sizeBld
  go_enter Tryz.func51, Tryz.ntmps51
  go_wp2
  rw [Lib.run_neq_ptr_same w _ Tryz.underlying45 hj]
  go_wp2
  go_end0
  exact ⟨rfl, rfl⟩

set_option maxHeartbeats 1000000 in
set_option maxRecDepth 100000 in
theorem copyCheck_fresh (b : Nat) (w : World) (h0 : w.cell? ⟨b, 0, none⟩ = some (.pointer none)) (hsh : w.shape? b = some (48, 2)) (hfz : w.frozen? ⟨b, 0, none⟩ = false) :
    Calls Tryz.prog 51 #[.pointer (some ⟨b, 0, none⟩)] w fun e w' => e = .returned (.tuple #[]) ∧ w' = w.setCell ⟨b, 0, none⟩ (.pointer (some ⟨b, 0, none⟩)) := by
  obtain ⟨j, hj, hjs⟩ := Option.map_eq_some_iff.1 sizeBld
  go_enter Tryz.func51, Tryz.ntmps51
  go_wp2
  rw [Lib.run_to_unsafe w ⟨b, 0, none⟩ Tryz.underlying45 Tryz.underlying73 hj (by rw [hjs]; decide) hsh (Nat.zero_lt_succ 1)]
  simp only [Result.andThen]
  rw [Oper.upon_value]
  go_wp2
  rw [run_callFunc_extern Tryz.func67 (by kernel_rfl) (by kernel_rfl) (by kernel_rfl) (e := Extern.AbiNoEscape.same) (by kernel_rfl)]
  rw [Lib.run_noEscape]
  simp only [Result.andThen]
  rw [Oper.upon_value]
  go_wp2
  rw [Lib.run_from_unsafe w ⟨b, 0, none⟩ Tryz.underlying73 Tryz.underlying45 hj hsh (by kernel_rfl)]
  simp only [Result.andThen]
  rw [Oper.upon_value]
  go_wp2
  go_end0
  exact ⟨rfl, rfl⟩

theorem copyCheck (B b : Nat) (bs : List Value) (w : World) (h : Is B b bs w) :
    Calls Tryz.prog 51 #[.pointer (some ⟨b, 0, none⟩)] w fun e w' => e = .returned (.tuple #[]) ∧ (At B b (.pointer (some ⟨b, 0, none⟩)) bs w' ∧ Below B w w' ∧ Lib.OthersKept 5 (some b) w w') := by
  rcases h with h | h
  · refine (copyCheck_fresh b w h.cell0 h.shape h.frozen0).mono ?_
    rintro e w' ⟨rfl, rfl⟩
    exact ⟨rfl, h.used _, (Below.refl B w).setCell (p := ⟨b, 0, none⟩) h.1 _, (Lib.OthersKept.refl _ _ w).setCell ⟨b, 0, none⟩ rfl _⟩
  · refine (copyCheck_used b w h.cell0).mono ?_
    rintro e w' ⟨rfl, rfl⟩
    exact ⟨rfl, h, Below.refl B _, Lib.OthersKept.refl _ _ _⟩

set_option maxHeartbeats 1000000 in
set_option maxRecDepth 100000 in
theorem writeByte (B b : Nat) (bs : List Value) (c : Int) (w : World) (h : Is B b bs w) (hlen : bs.length + 1 ≤ 140737488355328) (hBw : B ≤ w.heap.size) :
    Calls Tryz.prog 146 #[.pointer (some ⟨b, 0, none⟩), .int .u8 c] w fun e w' => e = .returned .nilIface ∧ (Is B b (bs ++ [.int .u8 c]) w' ∧ Below B w w' ∧ Lib.OthersKept 5 (some b) w w') := by
  obtain ⟨i0, hi, hz0, hz1, hz2⟩ := info_parts infoByte
  go_enter Tryz.func146, Tryz.ntmps146
  go_wp2_with (go_at_call 51; refine (copyCheck B b bs _ h).mono ?_)
  rintro e w1 ⟨rfl, h1, hb1, hk1⟩
  obtain ⟨hB, v, hbk, hown, hne⟩ := h1
  have c0 : w1.cell? ⟨b, 0, none⟩ = some (.pointer (some ⟨b, 0, none⟩)) := by rw [Lib.cell_of_heap hbk]; rfl
  have c1 : w1.cell? ⟨b, 1, none⟩ = some v := by rw [Lib.cell_of_heap hbk]; rfl
  go_wp2_with (at_builtin; refine wpList_append_ownF _ rfl _ _ 46 rfl B 5 i0 (.int .u8 0) 1 1 Tryz.underlying46 hi hz0 hz1 hz2 rfl (by decide) _ _ _ rfl (hown.alloc _) ⟨w1.heap.size, 0, none⟩ 1 1 [.int .u8 c] rfl rfl ?c1 ?c2 ?c3 ?c4 ?c5 ?_)
  case c1 =>
    intro j u hj
    match j, hj with
    | 0, hj => simp at hj; subst hj; simp [Addr.add]
  case c2 => intro u hu; simp at hu; subst hu; rfl
  case c3 => unfold maxLen; omega
  case c4 => omega
  case c5 => have := hb1.size; simp; omega
  intro v' w2 hown' hgrow _
  have hlt : b < w1.heap.size := by
    rcases Nat.lt_or_ge b w1.heap.size with h' | h'
    · exact h'
    · simp [Array.getElem?_eq_none h'] at hbk
  have hb2 : w2.heap[b]? = some (.cells #[.pointer (some ⟨b, 0, none⟩), v] 48 (0, 0)) := by
    rw [hgrow.block b (by simp; omega) (fun e => hne e.symm), Lib.alloc_old w1 _ b hlt]
    exact hbk
  have d0 : w2.cell? ⟨b, 0, none⟩ = some (.pointer (some ⟨b, 0, none⟩)) := by rw [Lib.cell_of_heap hb2]; rfl
  have d1 : w2.cell? ⟨b, 1, none⟩ = some v := by rw [Lib.cell_of_heap hb2]; rfl
  have f1 : w2.frozen? ⟨b, 1, none⟩ = false := Lib.frozen_of_heap hb2 1
  obtain ⟨g, cap, rfl⟩ : ∃ g cap, v' = .slice (some ⟨g, 0, none⟩) (bs.length + 1) cap := by
    rcases hown'.2 with ⟨_, h0⟩ | ⟨g, cap, cur, fz, hv, _⟩
    · omega
    · exact ⟨g, cap, hv⟩
  go_wp2
  go_ret
  refine ⟨rfl, .inr ?_, ?_, ((hk1.alloc _).grown hgrow (Lib.ownsRowF_kind (hown.alloc _))).setCell ⟨b, 1, none⟩ rfl _⟩
  · exact Lib.BuilderAtF.put (T := 48) (e := 5) hB hb2 (bs' := bs ++ [.int .u8 c]) (by simpa using hown') (by decide)
  · exact ((hb1.alloc (by have := hb1.size; omega) _).grown hgrow (by have := hb1.size; simp; omega) (fun k hk => (hown.lt k hk).1)).setCell (p := ⟨b, 1, none⟩) hB _

set_option maxHeartbeats 2000000 in
set_option maxRecDepth 100000 in
theorem writeString (B b : Nat) (bs : List Value) (s : ByteArray) (w : World) (h : Is B b bs w) (hlen : bs.length + s.size ≤ 140737488355328) (hBw : B ≤ w.heap.size) :
    Calls Tryz.prog 40 #[.pointer (some ⟨b, 0, none⟩), .string s] w fun e w' => e = .returned (.tuple #[.int .i64 s.size, .nilIface]) ∧ (Is B b (bs ++ Lib.strCells s) w' ∧ Below B w w' ∧ Lib.OthersKept 5 (some b) w w') := by
  obtain ⟨i0, hi, hz0, hz1, hz2⟩ := info_parts infoByte
  go_enter Tryz.func40, Tryz.ntmps40
  go_wp2_with (go_at_call 51; refine (copyCheck B b bs _ h).mono ?_)
  rintro e w1 ⟨rfl, h1, hb1, hk1⟩
  obtain ⟨hB, v, hbk, hown, hne⟩ := h1
  have c0 : w1.cell? ⟨b, 0, none⟩ = some (.pointer (some ⟨b, 0, none⟩)) := by rw [Lib.cell_of_heap hbk]; rfl
  have c1 : w1.cell? ⟨b, 1, none⟩ = some v := by rw [Lib.cell_of_heap hbk]; rfl
  go_wp2_with (at_builtin; refine Lib.wpList_append_own_stringF _ rfl _ _ 46 9 rfl B 5 i0 Tryz.underlying46 Tryz.underlying9 hi hz0 hz1 hz2 _ _ _ rfl hown s rfl ?c3 ?c4 ?c5 ?_)
  case c3 => unfold maxLen; omega
  case c4 => omega
  case c5 => have := hb1.size; omega
  intro v' w2 hown' hgrow _
  have hlt : b < w1.heap.size := by
    rcases Nat.lt_or_ge b w1.heap.size with h' | h'
    · exact h'
    · simp [Array.getElem?_eq_none h'] at hbk
  have hb2 : w2.heap[b]? = some (.cells #[.pointer (some ⟨b, 0, none⟩), v] 48 (0, 0)) := by
    rw [hgrow.block b hlt (fun e => hne e.symm)]
    exact hbk
  have d0 : w2.cell? ⟨b, 0, none⟩ = some (.pointer (some ⟨b, 0, none⟩)) := by rw [Lib.cell_of_heap hb2]; rfl
  have d1 : w2.cell? ⟨b, 1, none⟩ = some v := by rw [Lib.cell_of_heap hb2]; rfl
  have f1 : w2.frozen? ⟨b, 1, none⟩ = false := Lib.frozen_of_heap hb2 1
  obtain ⟨ao, n', cap, rfl⟩ : ∃ ao n' cap, v' = .slice ao n' cap := by
    rcases hown'.2 with ⟨hv, _⟩ | ⟨g, cap, cur, fz, hv, _⟩
    · exact ⟨_, _, _, hv⟩
    · exact ⟨_, _, _, hv⟩
  go_wp2
  go_ret2
  refine ⟨rfl, .inr ?_, ?_, (hk1.grown hgrow (Lib.ownsRowF_kind hown)).setCell ⟨b, 1, none⟩ rfl _⟩
  · exact Lib.BuilderAtF.put (T := 48) (e := 5) hB hb2 (bs' := bs ++ Lib.strCells s) (by simpa [Lib.strCells_length] using hown') (by decide)
  · exact (hb1.grown hgrow (by have := hb1.size; omega) (fun k hk => (hown.lt k hk).1)).setCell (p := ⟨b, 1, none⟩) hB _

end Go.Proofs.YtgodeffkboihlaaGreatDoor.Bld

/- words.Quote: for every text of at most 2^45 bytes it answers the text in quotes. -/
set_option linter.unusedVariables false
namespace Go.Proofs.YtgodeffkboihlaaGreatDoor.Tqu
open Go.RowKit

theorem byte_is {c : UInt8} {n : Nat} (hn : n < 256) (h : ((c.toNat : Int) == (n : Int)) = true) : c = UInt8.ofNat n := by
  have h1 : (c.toNat : Int) = n := by simpa using h
  apply UInt8.toNat_inj.mp
  rw [UInt8.toNat_ofNat']
  omega
theorem byte_not {c : UInt8} {n : Nat} (hn : n < 256) (h : ((c.toNat : Int) == (n : Int)) = false) : c ≠ UInt8.ofNat n := by
  rintro rfl
  rw [UInt8.toNat_ofNat'] at h
  simp at h
  omega
theorem take_snoc (s : ByteArray) (k : Nat) (h : k < s.size) : s.data.toList.take (k + 1) = s.data.toList.take k ++ [s[k]] := by
  rw [List.take_succ_eq_append_getElem (by simpa using h)]; rfl
theorem rel {l e : List UInt8} {c : UInt8} (h : Plw.esc c = e) : Lib.byteCells ([34] ++ Plw.escs (l ++ [c])) = Lib.byteCells ([34] ++ Plw.escs l) ++ Lib.byteCells e := by
  rw [Plw.escs_snoc, h, ← List.append_assoc, Lib.byteCells_append]
theorem esc_10 {c : UInt8} (h : ((c.toNat : Int) == 10) = true) : Plw.esc c = [92, 110] := by
  obtain rfl := byte_is (n := 10) (by omega) h; rfl
theorem esc_9 {c : UInt8} (h : ((c.toNat : Int) == 9) = true) : Plw.esc c = [92, 116] := by
  obtain rfl := byte_is (n := 9) (by omega) h; rfl
theorem esc_34 {c : UInt8} (h : ((c.toNat : Int) == 34) = true) : Plw.esc c = [92, c] := by
  obtain rfl := byte_is (n := 34) (by omega) h; rfl
theorem esc_92 {c : UInt8} (h : ((c.toNat : Int) == 92) = true) : Plw.esc c = [92, c] := by
  obtain rfl := byte_is (n := 92) (by omega) h; rfl
theorem esc_self {c : UInt8} (h1 : ((c.toNat : Int) == 10) = false) (h2 : ((c.toNat : Int) == 9) = false) (h3 : ((c.toNat : Int) == 34) = false) (h4 : ((c.toNat : Int) == 92) = false) : Plw.esc c = [c] := by
  have e1 : c ≠ 10 := byte_not (n := 10) (by omega) h1
  have e2 : c ≠ 9 := byte_not (n := 9) (by omega) h2
  have e3 : c ≠ 34 := byte_not (n := 34) (by omega) h3
  have e4 : c ≠ 92 := byte_not (n := 92) (by omega) h4
  unfold Plw.esc
  rw [if_neg e1, if_neg e2, if_neg e3, if_neg e4]
/-- The builder's cells have room for more. -/
theorem room (s : ByteArray) (k : Nat) (hs : s.size ≤ 35184372088832) : (Lib.byteCells ([34] ++ Plw.escs (s.data.toList.take k))).length + 4 ≤ 140737488355328 := by
  rw [Lib.byteCells_length]
  have h := Plw.escs_le (s.data.toList.take k)
  have h2 : (s.data.toList.take k).length ≤ s.data.toList.length := by rw [List.length_take]; omega
  have h3 : s.data.toList.length = s.size := rfl
  simp only [List.length_append, List.length_cons, List.length_nil]
  omega

set_option maxHeartbeats 4000000 in
set_option maxRecDepth 100000 in
theorem quote_any (s : ByteArray) (w : World) (hs : s.size ≤ 35184372088832) :
    Calls Tryz.prog 114 #[.string s] w fun e w' => e = .returned (.string ⟨(Plw.quote s.data.toList).toArray⟩) ∧ Below w.heap.size w w' := by
  go_enter Tryz.func114, Tryz.ntmps114
  have hI0 := Lib.IsBuilderF.of (Lib.fresh_isBuilder 48 5 w)
  go_wp2_with (go_at_call 146; refine (Bld.writeByte w.heap.size w.heap.size _ _ _ hI0 (by simp) (by simp)).mono ?_)
  rintro e w1 ⟨rfl, hI1, hb1, _⟩
  go_wp2
  go_loopw [9] (fun i wr => ∃ (k : Nat), k ≤ s.size ∧ i = .int .i64 k ∧ Bld.Is w.heap.size w.heap.size (Lib.byteCells ([34] ++ Plw.escs (s.data.toList.take k))) wr ∧ Below w.heap.size w wr) (fun i _ => s.size - (intOf i).toNat)
  case atStart =>
    refine ⟨0, Nat.zero_le _, rfl, ?_, ?_⟩
    · simpa [Plw.escs_nil, Lib.byteCells] using hI1
    · exact ((Below.refl _ w).alloc (Nat.le_refl _) _).trans hb1
  case round =>
    obtain ⟨k, hk, rfl, hI, hbw⟩ := hrel
    clear hI0 hI1 hb1
    have hroom := room s k hs
    have hsz := hbw.size
    by_cases hlt : k < s.size
    · go_wp2_with fail
      · have hesc : Plw.esc s[k] = [92, 110] := esc_10 (by assumption)
        have hR := Lib.hid (rel (l := s.data.toList.take k) hesc)
        have hT := Lib.hid (take_snoc s k hlt)
        clear hesc
        refine (Bld.writeString w.heap.size w.heap.size _ _ _ hI (by change _ + 2 ≤ _; omega) hsz).mono ?_
        rintro e w2 ⟨rfl, hI2, hb2, _⟩
        go_wp2
        go_roundw
        case rel => exact ⟨k + 1, by omega, by go_num, by rw [hT.out, hR.out]; exact hI2, hbw.trans hb2⟩
        case measure => simp [intOf]; omega
      · have hesc : Plw.esc s[k] = [92, 116] := esc_9 (by assumption)
        have hR := Lib.hid (rel (l := s.data.toList.take k) hesc)
        have hT := Lib.hid (take_snoc s k hlt)
        clear hesc
        refine (Bld.writeString w.heap.size w.heap.size _ _ _ hI (by change _ + 2 ≤ _; omega) hsz).mono ?_
        rintro e w2 ⟨rfl, hI2, hb2, _⟩
        go_wp2
        go_roundw
        case rel => exact ⟨k + 1, by omega, by go_num, by rw [hT.out, hR.out]; exact hI2, hbw.trans hb2⟩
        case measure => simp [intOf]; omega
      · have hesc : Plw.esc s[k] = [92, s[k]] := esc_34 (by assumption)
        have hR := Lib.hid (rel (l := s.data.toList.take k) hesc)
        have hT := Lib.hid (take_snoc s k hlt)
        clear hesc
        refine (Bld.writeByte w.heap.size w.heap.size _ _ _ hI (by omega) hsz).mono ?_
        rintro e w2 ⟨rfl, hI2, hb2, _⟩
        go_wp2_with fail
        refine (Bld.writeByte w.heap.size w.heap.size _ _ _ hI2 (by simp only [List.length_append, List.length_cons, List.length_nil]; omega) (by have := hb2.size; omega)).mono ?_
        rintro e w3 ⟨rfl, hI3, hb3, _⟩
        go_wp2
        go_roundw
        case rel => exact ⟨k + 1, by omega, by go_num, by rw [hT.out, hR.out]; simpa [Lib.byteCells] using hI3, (hbw.trans hb2).trans hb3⟩
        case measure => simp [intOf]; omega
      · have hesc : Plw.esc s[k] = [92, s[k]] := esc_92 (by assumption)
        have hR := Lib.hid (rel (l := s.data.toList.take k) hesc)
        have hT := Lib.hid (take_snoc s k hlt)
        clear hesc
        refine (Bld.writeByte w.heap.size w.heap.size _ _ _ hI (by omega) hsz).mono ?_
        rintro e w2 ⟨rfl, hI2, hb2, _⟩
        go_wp2_with fail
        refine (Bld.writeByte w.heap.size w.heap.size _ _ _ hI2 (by simp only [List.length_append, List.length_cons, List.length_nil]; omega) (by have := hb2.size; omega)).mono ?_
        rintro e w3 ⟨rfl, hI3, hb3, _⟩
        go_wp2
        go_roundw
        case rel => exact ⟨k + 1, by omega, by go_num, by rw [hT.out, hR.out]; simpa [Lib.byteCells] using hI3, (hbw.trans hb2).trans hb3⟩
        case measure => simp [intOf]; omega
      · have hesc : Plw.esc s[k] = [s[k]] := esc_self (by assumption) (by assumption) (by assumption) (by assumption)
        have hR := Lib.hid (rel (l := s.data.toList.take k) hesc)
        have hT := Lib.hid (take_snoc s k hlt)
        clear hesc
        refine (Bld.writeByte w.heap.size w.heap.size _ _ _ hI (by omega) hsz).mono ?_
        rintro e w2 ⟨rfl, hI2, hb2, _⟩
        go_wp2
        go_roundw
        case rel => exact ⟨k + 1, by omega, by go_num, by rw [hT.out, hR.out]; exact hI2, hbw.trans hb2⟩
        case measure => simp [intOf]; omega
    · go_wp2_with fail
      refine (Bld.writeByte w.heap.size w.heap.size _ _ _ hI (by omega) hsz).mono ?_
      rintro e w2 ⟨rfl, hI2, hb2, _⟩
      go_wp2_with fail
      have hE : Lib.byteCells ([34] ++ Plw.escs (s.data.toList.take k)) ++ [Value.int .u8 34] = Lib.byteCells (Plw.quote s.data.toList) := by
        rw [List.take_of_length_le (by show s.size ≤ k; omega)]
        simp [Lib.byteCells, Plw.quote]
      rw [hE] at hI2
      refine (Tryz.Builder_String_any_k w.heap.size w.heap.size _ _ hI2 (by have := hb2.size; omega)).mono ?_
      rintro e w3 ⟨rfl, _, hb3, _⟩
      clear hE
      go_wp2
      go_ret
      exact ⟨rfl, (hbw.trans hb2).trans hb3⟩
end Go.Proofs.YtgodeffkboihlaaGreatDoor.Tqu
